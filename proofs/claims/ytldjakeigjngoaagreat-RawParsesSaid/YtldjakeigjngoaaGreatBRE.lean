/- BRE: texts of this proof, joined by program: RawEl, RawEl2. -/
import Derived.Test.YtldjakeigjngoaaGreatRawQ
import Derived.Test.YtldjakeigjngoaaGreatBRC
import Derived.Test.YtldjakeigjngoaaGreatBOB
/- Contracts: an element of a list, as the program reads it. -/
set_option linter.unusedVariables false
set_option linter.unusedSimpArgs false
namespace Go.Proofs.YtldjakeigjngoaaGreat
open Go.RowKit Bf
structure BadC (l : List TokT) (c' : CurT) (e a : Int) : Prop where
 ok : CurOk l c'
 ne : e ≠ 0
 he : c'.e = e
 ha : c'.a = a
def stR (l : List TokT) (c : CurT) (m : Int) : RR RawP := if c.e ≠ 0 then .bad c.e c.a else valR (24 - c.d).toNat (l.drop c.i.toNat) m
def VP (rb cb : Nat) (p : Option Addr) (q : Nat) (l : List TokT) (c : CurT) (m : Int) (u : Value) (es : List En) : Prop :=
 match stR l c m with
 | .ok v l' m' => ∃ z i', u = .agg ⟨rawV z⟩ ∧ es = rrE rb cb p q l ⟨i', c.d, 0, 0⟩ m' ++ [rawE [z]] ∧ plR z = v ∧ l' = l.drop i'.toNat ∧ c.i < i' ∧ CurOk l ⟨i', c.d, 0, 0⟩ ∧ 0 ≤ m' ∧ m' ≤ 4096
 | .bad e a => ∃ cs c' m', u = .agg ⟨cs⟩ ∧ cs.length = 6 ∧ oneAll cs = true ∧ es = rrE rb cb p q l c' m' ∧ BadC l c' e a ∧ 0 ≤ m' ∧ m' ≤ 4096
def TokI (l : List TokT) : Prop := ∀ t ∈ l, I64 t.2.2.2.2
def ValSpec (d : Int) : Prop := ∀ (rb cb : Nat) (p : Option Addr) (q : Nat) (l : List TokT) (c : CurT) (m : Int), TokOk l → TokI l → CurOk l c → c.d = d → (c.e = 0 → c.a = 0) → 0 ≤ m → m ≤ 4096 →
 CallsE Tryz.prog 19 [ptr rb] (rrE rb cb p q l c m) (VP rb cb p q l c m)
structure Acc where
 ks : List WordT
 pk : Option Addr
 ck : Nat
 zs : List RawA
 p : Option Addr
 c : Nat
def vC (k a : Int) (x : Acc) : List Value := [.int .i64 k, .int .i64 a, .int .i64 0, S [], .slice x.pk x.ks.length x.ck, .slice x.p x.zs.length x.c]
def accE (vb vx rx rb : Nat) (k a : Int) (x : Acc) : List En :=
 [blk vb 26 (vC k a x), blk vx 93 [ptr vb], blk rx 53 [ptr rb], vec 36 2 (.slice x.pk x.ks.length x.ck) x.ks.length (x.ks.flatMap wordV), vec 26 6 (.slice x.p x.zs.length x.c) x.zs.length (x.zs.flatMap rawV), rawE x.zs]
def EP (rb cb : Nat) (p : Option Addr) (q : Nat) (l : List TokT) (i d m : Int) (val : List TokT → Int → RR RawP) (rec : Bool) (vb vx rx : Nat) (k a : Int) (x : Acc) (u : Value) (es : List En) : Prop :=
 u = .tuple #[] ∧ match elR val rec (l.drop i.toNat) m with
 | .ok kv l' m' => ∃ z i' x', es = rrE rb cb p q l ⟨i', d, 0, 0⟩ m' ++ accE vb vx rx rb k a x' ∧ x'.ks = x.ks ++ kv.1 ∧ x'.zs = x.zs ++ [z] ∧ plR z = kv.2 ∧ l' = l.drop i'.toNat ∧ i < i' ∧ CurOk l ⟨i', d, 0, 0⟩ ∧ 0 ≤ m' ∧ m' ≤ 4096
 | .bad e' a' => ∃ c' m' cs, es = rrE rb cb p q l c' m' ++ [blk vb 26 cs] ∧ cs.length = 6 ∧ oneAll cs = true ∧ BadC l c' e' a' ∧ 0 ≤ m' ∧ m' ≤ 4096
theorem six {α : Type} {cs : List α} (h : cs.length = 6) : ∃ c0 c1 c2 c3 c4 c5, cs = [c0, c1, c2, c3, c4, c5] := by
 match cs, h with
 | [c0, c1, c2, c3, c4, c5], _ => exact ⟨c0, c1, c2, c3, c4, c5, rfl⟩
theorem flat6 : ∀ (zs : List RawA), (zs.flatMap rawV).length = zs.length * 6
 | [] => rfl
 | z :: zs => by rw [List.flatMap_cons, List.length_append, flat6 zs, rawV_len, List.length_cons]; omega
theorem elR_list_ok {val : List TokT → Int → RR RawP} {l : List TokT} {m : Int} {v : RawP} {l' : List TokT} {m' : Int} (h : val l m = .ok v l' m') : elR val false l m = .ok ([], v) l' m' := by
 unfold elR; rw [h]; rfl
theorem elR_list_bad {val : List TokT → Int → RR RawP} {l : List TokT} {m e a : Int} (h : val l m = .bad e a) : elR val false l m = .bad e a := by
 unfold elR; rw [h]; rfl
set_option maxRecDepth 20000 in
set_option maxHeartbeats 8000000 in
theorem list1_c (rb cb : Nat) (p : Option Addr) (q : Nat) (l : List TokT) (i d m : Int) (vb vx rx : Nat) (k a : Int) (x : Acc) (hv : ValSpec d) (hl : TokOk l) (hli : TokI l) (hc : CurOk l ⟨i, d, 0, 0⟩) (hm0 : 0 ≤ m) (hm : m ≤ 4096) (hz : x.zs.length ≤ i.toNat) :
 CallsE Tryz.prog 83 [ptr vx, ptr rx] (rrE rb cb p q l ⟨i, d, 0, 0⟩ m ++ accE vb vx rx rb k a x) (EP rb cb p q l i d m (valR (24 - d).toNat) false vb vx rx k a x) := by
 have hval := hv rb cb p q l ⟨i, d, 0, 0⟩ m hl hli hc rfl (fun _ => rfl) hm0 hm
 have hst : stR l ⟨i, d, 0, 0⟩ m = valR (24 - d).toNat (l.drop i.toNat) m := if_neg (fun h => h rfl)
 obtain ⟨ks, pk, ck, zs, pz, cz⟩ := x
 simp only at hz
 have hbig := hl.big
 have i1 := hc.i1
 have i0 := hc.i0
 simp only at i1 i0
 have hup : ∀ vs : List Value, vs.length = 6 → upd (zs.flatMap rawV ++ [.int .i64 0, .int .i64 0, .int .i64 0, S [], .slice none 0 0, .slice none 0 0]) (0 + zs.length * 6) vs = zs.flatMap rawV ++ vs := fun vs hvs => by
  rw [Nat.zero_add, ← flat6 zs]; exact upd_all _ _ _ (by rw [hvs]; rfl)
 have hlen : ∀ vs : List Value, vs.length = 6 → 0 + zs.length * 6 + vs.length ≤ (zs.flatMap rawV ++ [.int .i64 0, .int .i64 0, .int .i64 0, S [], .slice none 0 0, .slice none 0 0]).length := fun vs hvs => by
  rw [List.length_append, flat6, hvs, Nat.zero_add]; exact Nat.le_refl _
 cases hr : valR (24 - d).toNat (l.drop i.toNat) m with
 | ok v l' m' =>
  refine sy_enterE rfl rfl (fun w => ?_)
  simp only [initFr, rrE, accE, curE, List.cons_append, List.nil_append]
  repeat (refine sy_k rfl rfl ?_)
  refine sy_two 1 2 (by kernel_rfl) ?_ ?_
  · refine any_drawE _ 3 [(0, true), (1, true), (2, true)] (by kernel_rfl) rfl sr ?_
    refine dre_ef rfl ?_
    refine sy_alloc rfl rfl rfl ?_
    intro nb
    refine dre_ek (sd sr) ?_
    repeat (first | (refine dre_ef rfl ?_; refine sy_store 0 rfl rfl rfl rfl rfl rfl rfl rfl ?_; refine dre_ek (by repeat first | exact sr | apply sk | apply sd) ?_) | refine dre_end ?_)
    simp only [addE, edged]
    repeat (first | refine sy_k rfl rfl ?_ | (refine gO ?_; (refine gL ?_; refine sy_ov (ov_ld 0 rfl rfl rfl) rfl rfl ?_)) | (refine sy_cond_f rfl ?_ ?_; (first | with_reducible rfl | assumption | omega | (simp <;> first | omega | assumption))))
    refine sy_weaken (fun _ _ h => h) (sd sr) ?_
    refine sy_drawE _ 9 [(0, false), (1, false), (2, false), (3, false), (4, false), (5, false), (6, true), (7, true), (8, true)] (by kernel_rfl) rfl (sd (sd (sd (sk (sk (sk (sd (sd (sd sr))))))))) ?_
    repeat (first | refine dre_rd (fun _ _ => ov_p rfl) rfl ?_ | refine dre_rd (fun _ _ => ov_ld 0 rfl rfl rfl) rfl ?_ | refine dre_rd (fun _ _ => ov_ld 1 rfl rfl rfl) rfl ?_ | refine dre_rd (fun _ _ => ov_ld 2 rfl rfl rfl) rfl ?_ | refine dre_rd (fun _ _ => ov_fieldAddr rfl rfl rfl) rfl ?_)
    refine dre_ef rfl ?_
    refine sy_callE (rrE rb cb p q l ⟨i, d, 0, 0⟩ m) rfl rfl rfl hval ?_
    intro u es' hV
    simp only [VP, hst, hr] at hV
    obtain ⟨z, i', rfl, rfl, hpl, hl', hlt, hc', hm0', hm1'⟩ := hV
    have hz1 : plR z = v := hpl
    have hP : ∀ p' q', EP rb cb p q l i d m (valR (24 - d).toNat) false vb vx rx k a ⟨ks, pk, ck, zs, pz, cz⟩ (.tuple #[]) (rrE rb cb p q l ⟨i', d, 0, 0⟩ m' ++ accE vb vx rx rb k a ⟨ks, pk, ck, zs ++ [z], p', q'⟩) := fun p' q' =>
     ⟨rfl, by rw [elR_list_ok hr]; exact ⟨z, i', ⟨ks, pk, ck, zs ++ [z], p', q'⟩, rfl, by simp, rfl, hz1, hl', hlt, hc', hm0', hm1'⟩⟩
    have e1 : (zs ++ [z]).length = zs.length + 1 := by simp
    have e2 : (zs ++ [z]).flatMap rawV = zs.flatMap rawV ++ rawV z := by simp
    obtain ⟨zk, za, zn, zsx, zpk, zck, zkeys, zp, zc, zkids⟩ := z
    simp only [rrE, curE, List.cons_append, List.nil_append]
    refine dre_ek (sd (sd (sd (sd (sk (sk (sk (sd (sd (sd sr)))))))))) ?_
    skip
    refine dre_ef rfl ?_
    refine sy_buildSlice rfl rfl rfl rfl rfl rfl rfl rfl ?_
    intro nb
    refine dre_ek (sd (sd (sd (sd (sd (sk (sk (sk (sd (sd (sd sr))))))))))) ?_
    refine dre_ef rfl ?_
    have h1a : oneAll (rawV (.mk zk za zn zsx zpk zck zkeys zp zc zkids)) = true := rfl
    refine sy_append 9 0 rfl rfl rfl rfl rfl rfl rfl rfl h1a rfl rfl (by omega) (by refine Nat.le_trans (Nat.mul_le_mul_left _ (Nat.le_of_ble_eq_true (m := 1024) rfl)) ?_; omega) ?_
    intro p' q'
    refine dre_ek (sd (sd (sd (sd (sd (sk (sk (sk (sd (sd (sd sr))))))))))) ?_
    repeat (refine dre_end ?_)
    refine sy_weaken (fun _ _ h => h) (sd sr) ?_
    repeat (first | refine sy_k rfl rfl ?_ | (refine gO ?_; first | refine sy_ov (ov_p rfl) rfl rfl ?_ | (refine gS ?_; refine sy_store 4 rfl rfl rfl rfl rfl rfl rfl rfl ?_) | refine sy_ov (ov_fieldAddr rfl rfl rfl) rfl rfl ?_))
    refine sy_order [9, 3, 0, 1, 2, 4, 5, 6, 7, 8] rfl rfl ?_
    simp only [List.set_cons_zero, List.set_cons_succ, List.filterMap_cons, List.filterMap_nil, List.getElem?_cons_zero, List.getElem?_cons_succ]
    refine sy_rawAdd ?_
    refine sy_order [1, 2, 3, 4, 5, 6, 7, 8, 0] rfl rfl ?_
    simp only [List.set_cons_zero, List.set_cons_succ, List.filterMap_cons, List.filterMap_nil, List.getElem?_cons_zero, List.getElem?_cons_succ]
    exact end0w rfl fun w' hw' => postE hw' _ (sub_self (by simp only [rrE, accE, vC, curE, List.cons_append, List.nil_append]; rw [e1, e2]; exact sr)) rfl (hP (some p') q')
  · refine any_drawE _ 3 [(0, true), (2, true), (1, true)] (by kernel_rfl) rfl sr ?_
    refine dre_ef rfl ?_
    refine sy_alloc rfl rfl rfl ?_
    intro nb
    refine dre_ek (sd sr) ?_
    repeat (first | (refine dre_ef rfl ?_; refine sy_store 0 rfl rfl rfl rfl rfl rfl rfl rfl ?_; refine dre_ek (by repeat first | exact sr | apply sk | apply sd) ?_) | refine dre_end ?_)
    simp only [addE, edged]
    repeat (first | refine sy_k rfl rfl ?_ | (refine gO ?_; (refine gL ?_; refine sy_ov (ov_ld 0 rfl rfl rfl) rfl rfl ?_)) | (refine sy_cond_t rfl ?_ ?_; (first | with_reducible rfl | assumption | omega | (simp <;> first | omega | assumption))))
    refine sy_weaken (fun _ _ h => h) (sd sr) ?_
    refine sy_two 5 7 (by kernel_rfl) ?_ ?_
    · refine any_drawE _ 8 [(0, false), (1, false), (2, false), (3, false), (4, false), (6, false), (5, true), (7, true)] (by kernel_rfl) rfl (sd (sd (sd (sk (sk (sk (sd (sd (sd sr))))))))) ?_
      repeat (first | refine dre_rd (fun _ _ => ov_p rfl) rfl ?_ | refine dre_rd (fun _ _ => ov_lens rfl) rfl ?_ | refine dre_rd (fun _ _ => ov_ld 0 rfl rfl rfl) rfl ?_ | refine dre_rd (fun _ _ => ov_ld 1 rfl rfl rfl) rfl ?_ | refine dre_rd (fun _ _ => ov_ld 2 rfl rfl rfl) rfl ?_ | refine dre_rd (fun _ _ => ov_fieldAddr rfl rfl rfl) rfl ?_)
      refine dre_ef rfl ?_
      refine sy_callE (rrE rb cb p q l ⟨i, d, 0, 0⟩ m) rfl rfl rfl hval ?_
      intro u es' hV
      simp only [VP, hst, hr] at hV
      obtain ⟨z, i', rfl, rfl, hpl, hl', hlt, hc', hm0', hm1'⟩ := hV
      have hz1 : plR z = v := hpl
      have hP : ∀ p' q', EP rb cb p q l i d m (valR (24 - d).toNat) false vb vx rx k a ⟨ks, pk, ck, zs, pz, cz⟩ (.tuple #[]) (rrE rb cb p q l ⟨i', d, 0, 0⟩ m' ++ accE vb vx rx rb k a ⟨ks, pk, ck, zs ++ [z], p', q'⟩) := fun p' q' =>
       ⟨rfl, by rw [elR_list_ok hr]; exact ⟨z, i', ⟨ks, pk, ck, zs ++ [z], p', q'⟩, rfl, by simp, rfl, hz1, hl', hlt, hc', hm0', hm1'⟩⟩
      have e1 : (zs ++ [z]).length = zs.length + 1 := by simp
      have e2 : (zs ++ [z]).flatMap rawV = zs.flatMap rawV ++ rawV z := by simp
      obtain ⟨zk, za, zn, zsx, zpk, zck, zkeys, zp, zc, zkids⟩ := z
      simp only [rrE, curE, List.cons_append, List.nil_append]
      refine dre_ek (sd (sd (sd (sd (sk (sk (sk (sd (sd (sd sr)))))))))) ?_
      refine dre_ef rfl ?_
      refine sy_buildSlice rfl rfl rfl rfl rfl rfl rfl rfl ?_
      intro nb
      refine dre_ek (sd (sd (sd (sd (sd (sk (sk (sk (sd (sd (sd sr))))))))))) ?_
      repeat (refine dre_end ?_)
      simp only [addE, edged]
      skip
      have h1a : oneAll [.int .i64 0, .int .i64 0, .int .i64 0, S [], .slice none 0 0, .slice none 0 0] = true := rfl
      refine sy_append 9 0 rfl rfl rfl rfl rfl rfl rfl rfl h1a rfl rfl (by omega) (by refine Nat.le_trans (Nat.mul_le_mul_left _ (Nat.le_of_ble_eq_true (m := 1024) rfl)) ?_; omega) ?_
      intro p' q'
      refine sy_weaken (fun _ _ h => h) (sd sr) ?_
      refine sy_vecAddr 8 rfl (by omega) ?_
      rintro g ⟨rfl⟩
      repeat (first | refine sy_k rfl rfl ?_ | (refine gO ?_; first | refine sy_ov (ov_p rfl) rfl rfl ?_ | (refine gS ?_; refine sy_store 4 rfl rfl rfl rfl rfl rfl rfl rfl ?_) | refine sy_ov (ov_fieldAddr rfl rfl rfl) rfl rfl ?_ | (refine sy_ov (ov_indexAddr rfl rfl ?_ ?_) rfl rfl ?_; omega; omega)))
      refine sy_storev 8 rfl rfl rfl rfl rfl rfl ?_ rfl (hup (rawV (.mk zk za zn zsx zpk zck zkeys zp zc zkids)) rfl) ?_
      focus exact hlen (rawV (.mk zk za zn zsx zpk zck zkeys zp zc zkids)) rfl
      repeat (refine sy_k rfl rfl ?_)
      refine sy_order [9, 3, 0, 1, 2, 4, 5, 6, 7, 8] rfl rfl ?_
      simp only [List.set_cons_zero, List.set_cons_succ, List.filterMap_cons, List.filterMap_nil, List.getElem?_cons_zero, List.getElem?_cons_succ]
      refine sy_rawAdd ?_
      refine sy_order [1, 2, 3, 4, 5, 6, 7, 8, 0] rfl rfl ?_
      simp only [List.set_cons_zero, List.set_cons_succ, List.filterMap_cons, List.filterMap_nil, List.getElem?_cons_zero, List.getElem?_cons_succ]
      exact end0w rfl fun w' hw' => postE hw' _ (sub_self (by simp only [rrE, accE, vC, curE, List.cons_append, List.nil_append]; rw [e1, e2]; exact sr)) rfl (hP (some ⟨g, 0, none⟩) q')
    · refine any_drawE _ 8 [(0, false), (1, false), (2, false), (3, false), (4, false), (6, false), (7, true), (5, true)] (by kernel_rfl) rfl (sd (sd (sd (sk (sk (sk (sd (sd (sd sr))))))))) ?_
      repeat (first | refine dre_rd (fun _ _ => ov_p rfl) rfl ?_ | refine dre_rd (fun _ _ => ov_lens rfl) rfl ?_ | refine dre_rd (fun _ _ => ov_ld 0 rfl rfl rfl) rfl ?_ | refine dre_rd (fun _ _ => ov_ld 1 rfl rfl rfl) rfl ?_ | refine dre_rd (fun _ _ => ov_ld 2 rfl rfl rfl) rfl ?_ | refine dre_rd (fun _ _ => ov_fieldAddr rfl rfl rfl) rfl ?_)
      refine dre_ef rfl ?_
      refine sy_buildSlice rfl rfl rfl rfl rfl rfl rfl rfl ?_
      intro nb
      refine dre_ek (sd (sd (sd (sd (sk (sk (sk (sd (sd (sd sr)))))))))) ?_
      refine dre_ef rfl ?_
      refine sy_order [1, 2, 3, 0, 4, 5, 6, 7, 8, 9] rfl rfl ?_
      simp only [List.set_cons_zero, List.set_cons_succ, List.filterMap_cons, List.filterMap_nil, List.getElem?_cons_zero, List.getElem?_cons_succ]
      refine sy_callE (rrE rb cb p q l ⟨i, d, 0, 0⟩ m) rfl rfl rfl hval ?_
      intro u es' hV
      simp only [VP, hst, hr] at hV
      obtain ⟨z, i', rfl, rfl, hpl, hl', hlt, hc', hm0', hm1'⟩ := hV
      have hz1 : plR z = v := hpl
      have hP : ∀ p' q', EP rb cb p q l i d m (valR (24 - d).toNat) false vb vx rx k a ⟨ks, pk, ck, zs, pz, cz⟩ (.tuple #[]) (rrE rb cb p q l ⟨i', d, 0, 0⟩ m' ++ accE vb vx rx rb k a ⟨ks, pk, ck, zs ++ [z], p', q'⟩) := fun p' q' =>
       ⟨rfl, by rw [elR_list_ok hr]; exact ⟨z, i', ⟨ks, pk, ck, zs ++ [z], p', q'⟩, rfl, by simp, rfl, hz1, hl', hlt, hc', hm0', hm1'⟩⟩
      have e1 : (zs ++ [z]).length = zs.length + 1 := by simp
      have e2 : (zs ++ [z]).flatMap rawV = zs.flatMap rawV ++ rawV z := by simp
      obtain ⟨zk, za, zn, zsx, zpk, zck, zkeys, zp, zc, zkids⟩ := z
      simp only [rrE, curE, List.cons_append, List.nil_append]
      refine dre_ek (sd (sd (sd (sd (sd (sk (sk (sk (sd (sd (sd sr))))))))))) ?_
      repeat (refine dre_end ?_)
      simp only [addE, edged]
      refine sy_order [4, 0, 1, 2, 3, 5, 6, 7, 8, 9, 10] rfl rfl ?_
      simp only [List.set_cons_zero, List.set_cons_succ, List.filterMap_cons, List.filterMap_nil, List.getElem?_cons_zero, List.getElem?_cons_succ]
      skip
      have h1a : oneAll [.int .i64 0, .int .i64 0, .int .i64 0, S [], .slice none 0 0, .slice none 0 0] = true := rfl
      refine sy_append 9 0 rfl rfl rfl rfl rfl rfl rfl rfl h1a rfl rfl (by omega) (by refine Nat.le_trans (Nat.mul_le_mul_left _ (Nat.le_of_ble_eq_true (m := 1024) rfl)) ?_; omega) ?_
      intro p' q'
      refine sy_weaken (fun _ _ h => h) (sd sr) ?_
      refine sy_vecAddr 8 rfl (by omega) ?_
      rintro g ⟨rfl⟩
      repeat (first | refine sy_k rfl rfl ?_ | (refine gO ?_; first | refine sy_ov (ov_p rfl) rfl rfl ?_ | (refine gS ?_; refine sy_store 4 rfl rfl rfl rfl rfl rfl rfl rfl ?_) | refine sy_ov (ov_fieldAddr rfl rfl rfl) rfl rfl ?_ | (refine sy_ov (ov_indexAddr rfl rfl ?_ ?_) rfl rfl ?_; omega; omega)))
      refine sy_storev 8 rfl rfl rfl rfl rfl rfl ?_ rfl (hup (rawV (.mk zk za zn zsx zpk zck zkeys zp zc zkids)) rfl) ?_
      focus exact hlen (rawV (.mk zk za zn zsx zpk zck zkeys zp zc zkids)) rfl
      repeat (refine sy_k rfl rfl ?_)
      refine sy_order [9, 3, 0, 1, 2, 4, 5, 6, 7, 8] rfl rfl ?_
      simp only [List.set_cons_zero, List.set_cons_succ, List.filterMap_cons, List.filterMap_nil, List.getElem?_cons_zero, List.getElem?_cons_succ]
      refine sy_rawAdd ?_
      refine sy_order [1, 2, 3, 4, 5, 6, 7, 8, 0] rfl rfl ?_
      simp only [List.set_cons_zero, List.set_cons_succ, List.filterMap_cons, List.filterMap_nil, List.getElem?_cons_zero, List.getElem?_cons_succ]
      exact end0w rfl fun w' hw' => postE hw' _ (sub_self (by simp only [rrE, accE, vC, curE, List.cons_append, List.nil_append]; rw [e1, e2]; exact sr)) rfl (hP (some ⟨g, 0, none⟩) q')
 | bad e a' =>
  refine sy_enterE rfl rfl (fun w => ?_)
  simp only [initFr, rrE, accE, curE, List.cons_append, List.nil_append]
  repeat (refine sy_k rfl rfl ?_)
  refine sy_two 1 2 (by kernel_rfl) ?_ ?_
  · refine any_drawE _ 3 [(0, true), (1, true), (2, true)] (by kernel_rfl) rfl sr ?_
    refine dre_ef rfl ?_
    refine sy_alloc rfl rfl rfl ?_
    intro nb
    refine dre_ek (sd sr) ?_
    repeat (first | (refine dre_ef rfl ?_; refine sy_store 0 rfl rfl rfl rfl rfl rfl rfl rfl ?_; refine dre_ek (by repeat first | exact sr | apply sk | apply sd) ?_) | refine dre_end ?_)
    simp only [addE, edged]
    repeat (first | refine sy_k rfl rfl ?_ | (refine gO ?_; (refine gL ?_; refine sy_ov (ov_ld 0 rfl rfl rfl) rfl rfl ?_)) | (refine sy_cond_f rfl ?_ ?_; (first | with_reducible rfl | assumption | omega | (simp <;> first | omega | assumption))))
    refine sy_weaken (fun _ _ h => h) (sd sr) ?_
    refine sy_drawE _ 9 [(0, false), (1, false), (2, false), (3, false), (4, false), (5, false), (6, true), (7, true), (8, true)] (by kernel_rfl) rfl (sd (sd (sd (sk (sk (sk (sd (sd (sd sr))))))))) ?_
    repeat (first | refine dre_rd (fun _ _ => ov_p rfl) rfl ?_ | refine dre_rd (fun _ _ => ov_ld 0 rfl rfl rfl) rfl ?_ | refine dre_rd (fun _ _ => ov_ld 1 rfl rfl rfl) rfl ?_ | refine dre_rd (fun _ _ => ov_ld 2 rfl rfl rfl) rfl ?_ | refine dre_rd (fun _ _ => ov_fieldAddr rfl rfl rfl) rfl ?_)
    refine dre_ef rfl ?_
    refine sy_callE (rrE rb cb p q l ⟨i, d, 0, 0⟩ m) rfl rfl rfl hval ?_
    intro u es' hV
    simp only [VP, hst, hr] at hV
    obtain ⟨cs, c', m', rfl, hc6, hone, rfl, hB, hm0', hm1'⟩ := hV
    have hP : ∀ cs, cs.length = 6 → oneAll cs = true → EP rb cb p q l i d m (valR (24 - d).toNat) false vb vx rx k a ⟨ks, pk, ck, zs, pz, cz⟩ (.tuple #[]) (rrE rb cb p q l c' m' ++ [blk vb 26 cs]) := fun cs h1 h2 =>
     ⟨rfl, by rw [elR_list_bad hr]; exact ⟨c', m', cs, rfl, h1, h2, hB, hm0', hm1'⟩⟩
    obtain ⟨c0, c1, c2, c3, c4, c5, rfl⟩ := six hc6
    simp only [rrE, curE, List.cons_append, List.nil_append]
    refine dre_ek (sd (sd (sd (sk (sk (sk (sd (sd (sd sr))))))))) ?_
    skip
    refine dre_ef rfl ?_
    refine sy_buildSlice rfl rfl rfl rfl rfl rfl rfl rfl ?_
    intro nb
    refine dre_ek (sd (sd (sd (sd (sk (sk (sk (sd (sd (sd sr)))))))))) ?_
    refine dre_ef rfl ?_
    have h1a := hone
    refine sy_append 8 0 rfl rfl rfl rfl rfl rfl rfl rfl h1a rfl rfl (by omega) (by refine Nat.le_trans (Nat.mul_le_mul_left _ (Nat.le_of_ble_eq_true (m := 1024) rfl)) ?_; omega) ?_
    intro p' q'
    refine dre_ek (sd (sd (sd (sd (sk (sk (sk (sd (sd (sd sr)))))))))) ?_
    repeat (refine dre_end ?_)
    refine sy_weaken (fun _ _ h => h) (sd sr) ?_
    repeat (first | refine sy_k rfl rfl ?_ | (refine gO ?_; first | refine sy_ov (ov_p rfl) rfl rfl ?_ | (refine gS ?_; refine sy_store 3 rfl rfl rfl rfl rfl rfl rfl rfl ?_) | refine sy_ov (ov_fieldAddr rfl rfl rfl) rfl rfl ?_))
    exact end0w rfl fun w' hw' => postE hw' (rrE rb cb p q l c' m' ++ [blk vb 26 (upd (vC k a ⟨ks, pk, ck, zs, pz, cz⟩) 5 [.slice (some p') (zs.length + 1) q'])]) (sub_self (by simp only [rrE, curE, List.cons_append, List.nil_append]; exact sk (sk (sk (sk (List.nil_sublist _)))))) rfl (hP _ rfl rfl)
  · refine any_drawE _ 3 [(0, true), (2, true), (1, true)] (by kernel_rfl) rfl sr ?_
    refine dre_ef rfl ?_
    refine sy_alloc rfl rfl rfl ?_
    intro nb
    refine dre_ek (sd sr) ?_
    repeat (first | (refine dre_ef rfl ?_; refine sy_store 0 rfl rfl rfl rfl rfl rfl rfl rfl ?_; refine dre_ek (by repeat first | exact sr | apply sk | apply sd) ?_) | refine dre_end ?_)
    simp only [addE, edged]
    repeat (first | refine sy_k rfl rfl ?_ | (refine gO ?_; (refine gL ?_; refine sy_ov (ov_ld 0 rfl rfl rfl) rfl rfl ?_)) | (refine sy_cond_t rfl ?_ ?_; (first | with_reducible rfl | assumption | omega | (simp <;> first | omega | assumption))))
    refine sy_weaken (fun _ _ h => h) (sd sr) ?_
    refine sy_two 5 7 (by kernel_rfl) ?_ ?_
    · refine any_drawE _ 8 [(0, false), (1, false), (2, false), (3, false), (4, false), (6, false), (5, true), (7, true)] (by kernel_rfl) rfl (sd (sd (sd (sk (sk (sk (sd (sd (sd sr))))))))) ?_
      repeat (first | refine dre_rd (fun _ _ => ov_p rfl) rfl ?_ | refine dre_rd (fun _ _ => ov_lens rfl) rfl ?_ | refine dre_rd (fun _ _ => ov_ld 0 rfl rfl rfl) rfl ?_ | refine dre_rd (fun _ _ => ov_ld 1 rfl rfl rfl) rfl ?_ | refine dre_rd (fun _ _ => ov_ld 2 rfl rfl rfl) rfl ?_ | refine dre_rd (fun _ _ => ov_fieldAddr rfl rfl rfl) rfl ?_)
      refine dre_ef rfl ?_
      refine sy_callE (rrE rb cb p q l ⟨i, d, 0, 0⟩ m) rfl rfl rfl hval ?_
      intro u es' hV
      simp only [VP, hst, hr] at hV
      obtain ⟨cs, c', m', rfl, hc6, hone, rfl, hB, hm0', hm1'⟩ := hV
      have hP : ∀ cs, cs.length = 6 → oneAll cs = true → EP rb cb p q l i d m (valR (24 - d).toNat) false vb vx rx k a ⟨ks, pk, ck, zs, pz, cz⟩ (.tuple #[]) (rrE rb cb p q l c' m' ++ [blk vb 26 cs]) := fun cs h1 h2 =>
       ⟨rfl, by rw [elR_list_bad hr]; exact ⟨c', m', cs, rfl, h1, h2, hB, hm0', hm1'⟩⟩
      obtain ⟨c0, c1, c2, c3, c4, c5, rfl⟩ := six hc6
      simp only [rrE, curE, List.cons_append, List.nil_append]
      refine dre_ek (sd (sd (sd (sk (sk (sk (sd (sd (sd sr))))))))) ?_
      refine dre_ef rfl ?_
      refine sy_buildSlice rfl rfl rfl rfl rfl rfl rfl rfl ?_
      intro nb
      refine dre_ek (sd (sd (sd (sd (sk (sk (sk (sd (sd (sd sr)))))))))) ?_
      repeat (refine dre_end ?_)
      simp only [addE, edged]
      skip
      have h1a : oneAll [.int .i64 0, .int .i64 0, .int .i64 0, S [], .slice none 0 0, .slice none 0 0] = true := rfl
      refine sy_append 8 0 rfl rfl rfl rfl rfl rfl rfl rfl h1a rfl rfl (by omega) (by refine Nat.le_trans (Nat.mul_le_mul_left _ (Nat.le_of_ble_eq_true (m := 1024) rfl)) ?_; omega) ?_
      intro p' q'
      refine sy_weaken (fun _ _ h => h) (sd sr) ?_
      refine sy_vecAddr 7 rfl (by omega) ?_
      rintro g ⟨rfl⟩
      repeat (first | refine sy_k rfl rfl ?_ | (refine gO ?_; first | refine sy_ov (ov_p rfl) rfl rfl ?_ | (refine gS ?_; refine sy_store 3 rfl rfl rfl rfl rfl rfl rfl rfl ?_) | refine sy_ov (ov_fieldAddr rfl rfl rfl) rfl rfl ?_ | (refine sy_ov (ov_indexAddr rfl rfl ?_ ?_) rfl rfl ?_; omega; omega)))
      refine sy_storev 7 rfl rfl rfl rfl rfl hone ?_ rfl (hup [c0, c1, c2, c3, c4, c5] rfl) ?_
      focus exact hlen [c0, c1, c2, c3, c4, c5] rfl
      repeat (refine sy_k rfl rfl ?_)
      exact end0w rfl fun w' hw' => postE hw' (rrE rb cb p q l c' m' ++ [blk vb 26 (upd (vC k a ⟨ks, pk, ck, zs, pz, cz⟩) 5 [.slice (some ⟨g, 0, none⟩) (zs.length + 1) q'])]) (sub_self (by simp only [rrE, curE, List.cons_append, List.nil_append]; exact sk (sk (sk (sk (List.nil_sublist _)))))) rfl (hP _ rfl rfl)
    · refine any_drawE _ 8 [(0, false), (1, false), (2, false), (3, false), (4, false), (6, false), (7, true), (5, true)] (by kernel_rfl) rfl (sd (sd (sd (sk (sk (sk (sd (sd (sd sr))))))))) ?_
      repeat (first | refine dre_rd (fun _ _ => ov_p rfl) rfl ?_ | refine dre_rd (fun _ _ => ov_lens rfl) rfl ?_ | refine dre_rd (fun _ _ => ov_ld 0 rfl rfl rfl) rfl ?_ | refine dre_rd (fun _ _ => ov_ld 1 rfl rfl rfl) rfl ?_ | refine dre_rd (fun _ _ => ov_ld 2 rfl rfl rfl) rfl ?_ | refine dre_rd (fun _ _ => ov_fieldAddr rfl rfl rfl) rfl ?_)
      refine dre_ef rfl ?_
      refine sy_buildSlice rfl rfl rfl rfl rfl rfl rfl rfl ?_
      intro nb
      refine dre_ek (sd (sd (sd (sd (sk (sk (sk (sd (sd (sd sr)))))))))) ?_
      refine dre_ef rfl ?_
      refine sy_order [1, 2, 3, 0, 4, 5, 6, 7, 8, 9] rfl rfl ?_
      simp only [List.set_cons_zero, List.set_cons_succ, List.filterMap_cons, List.filterMap_nil, List.getElem?_cons_zero, List.getElem?_cons_succ]
      refine sy_callE (rrE rb cb p q l ⟨i, d, 0, 0⟩ m) rfl rfl rfl hval ?_
      intro u es' hV
      simp only [VP, hst, hr] at hV
      obtain ⟨cs, c', m', rfl, hc6, hone, rfl, hB, hm0', hm1'⟩ := hV
      have hP : ∀ cs, cs.length = 6 → oneAll cs = true → EP rb cb p q l i d m (valR (24 - d).toNat) false vb vx rx k a ⟨ks, pk, ck, zs, pz, cz⟩ (.tuple #[]) (rrE rb cb p q l c' m' ++ [blk vb 26 cs]) := fun cs h1 h2 =>
       ⟨rfl, by rw [elR_list_bad hr]; exact ⟨c', m', cs, rfl, h1, h2, hB, hm0', hm1'⟩⟩
      obtain ⟨c0, c1, c2, c3, c4, c5, rfl⟩ := six hc6
      simp only [rrE, curE, List.cons_append, List.nil_append]
      refine dre_ek (sd (sd (sd (sd (sk (sk (sk (sd (sd (sd sr)))))))))) ?_
      repeat (refine dre_end ?_)
      simp only [addE, edged]
      refine sy_order [3, 0, 1, 2, 4, 5, 6, 7, 8, 9] rfl rfl ?_
      simp only [List.set_cons_zero, List.set_cons_succ, List.filterMap_cons, List.filterMap_nil, List.getElem?_cons_zero, List.getElem?_cons_succ]
      skip
      have h1a : oneAll [.int .i64 0, .int .i64 0, .int .i64 0, S [], .slice none 0 0, .slice none 0 0] = true := rfl
      refine sy_append 8 0 rfl rfl rfl rfl rfl rfl rfl rfl h1a rfl rfl (by omega) (by refine Nat.le_trans (Nat.mul_le_mul_left _ (Nat.le_of_ble_eq_true (m := 1024) rfl)) ?_; omega) ?_
      intro p' q'
      refine sy_weaken (fun _ _ h => h) (sd sr) ?_
      refine sy_vecAddr 7 rfl (by omega) ?_
      rintro g ⟨rfl⟩
      repeat (first | refine sy_k rfl rfl ?_ | (refine gO ?_; first | refine sy_ov (ov_p rfl) rfl rfl ?_ | (refine gS ?_; refine sy_store 3 rfl rfl rfl rfl rfl rfl rfl rfl ?_) | refine sy_ov (ov_fieldAddr rfl rfl rfl) rfl rfl ?_ | (refine sy_ov (ov_indexAddr rfl rfl ?_ ?_) rfl rfl ?_; omega; omega)))
      refine sy_storev 7 rfl rfl rfl rfl rfl hone ?_ rfl (hup [c0, c1, c2, c3, c4, c5] rfl) ?_
      focus exact hlen [c0, c1, c2, c3, c4, c5] rfl
      repeat (refine sy_k rfl rfl ?_)
      exact end0w rfl fun w' hw' => postE hw' (rrE rb cb p q l c' m' ++ [blk vb 26 (upd (vC k a ⟨ks, pk, ck, zs, pz, cz⟩) 5 [.slice (some ⟨g, 0, none⟩) (zs.length + 1) q'])]) (sub_self (by simp only [rrE, curE, List.cons_append, List.nil_append]; exact sk (sk (sk (sk (List.nil_sublist _)))))) rfl (hP _ rfl rfl)
end Go.Proofs.YtldjakeigjngoaaGreat
/- Contracts: an element of a record, as the program reads it. -/
namespace Go.Proofs.YtldjakeigjngoaaGreat
open Go.RowKit Bf
theorem hdT_at {l : List TokT} {i : Nat} {t : TokT} (h : l[i]? = some t) : hdT (l.drop i) = t ∧ (l.drop i).tail = l.drop (i + 1) := by
 rw [drop_get h]; exact ⟨rfl, rfl⟩
theorem nextT_d (l : List TokT) (c : CurT) : (nextT l c).d = c.d := by unfold nextT; split <;> rfl
theorem failAt_d (c : CurT) (e a : Int) : (failAtT c e a).d = c.d := by unfold failAtT; split <;> rfl
theorem need_d (l : List TokT) (c : CurT) (t : List UInt8) : (needT l c t).d = c.d := by
 unfold needT; split
 · exact nextT_d l c
 · exact failAt_d _ _ _
theorem failAt_i (c : CurT) (e a : Int) : (failAtT c e a).i = c.i := by unfold failAtT; split <;> rfl
theorem need_i (l : List TokT) (c : CurT) (t : List UInt8) : c.i ≤ (needT l c t).i := by
 unfold needT; split
 · unfold nextT; split
   · exact Int.le_refl _
   · simp only; omega
 · rw [show (failT l c _).i = c.i from failAt_i _ _ _]; exact Int.le_refl _
theorem need_at {l : List TokT} {c : CurT} {u : TokT} {t : List UInt8} (e0 : c.e = 0) (hu : l[c.i.toNat]? = some u) : (mkB (l.drop c.i.toNat) t = true ∧ needT l c t = ⟨c.i + 1, c.d, c.e, c.a⟩) ∨ (mkB (l.drop c.i.toNat) t = false ∧ needT l c t = ⟨c.i, c.d, (oddE u).1, u.2.1⟩) := by
 have hpk := peek_at e0 hu
 have hb : isT l c 4 t = mkB (l.drop c.i.toNat) t := by unfold isT mkB; rw [hpk, (hdT_at hu).1]
 by_cases h : mkB (l.drop c.i.toNat) t = true
 · left
   refine ⟨h, ?_⟩
   have h4 : u.1 ≠ 0 := by have := mk_hd h; rw [(hdT_at hu).1] at this; omega
   unfold needT; rw [hb, if_pos h, next_at e0 hu h4]
 · right
   have h : mkB (l.drop c.i.toNat) t = false := by simpa using h
   refine ⟨h, ?_⟩
   unfold needT; rw [hb, if_neg (by rw [h]; decide), hpk]
   unfold failT failAtT oddE
   rw [hpk, if_pos ⟨e0, by split <;> decide⟩]
theorem need_bad {l : List TokT} {c : CurT} {t : List UInt8} (he : c.e ≠ 0) (hb : t ≠ []) : needT l c t = c := by
 have hpk := peekT_bad l c he
 have h1 : isT l c 4 t = false := by unfold isT; rw [hpk]; simp
 unfold needT failT failAtT
 rw [if_neg (by rw [h1]; decide), if_neg (fun h => he h.1)]
theorem rec_el {l : List TokT} {i d m : Int} {t : TokT} {c1 : CurT} (hl : TokOk l) (hc : CurOk l ⟨i, d, 0, 0⟩) (ht : l[i.toNat]? = some t) (t1 : t.1 = 1) (h1 : needT l ⟨i + 1, d, 0, 0⟩ [58] = c1) :
 elR (valR (24 - d).toNat) true (l.drop i.toNat) m = (stR l c1 m).map fun v => ([(t.2.2.2.1, t.2.1)], v) := by
 have i0 := hc.i0
 simp only at i0
 obtain ⟨u, hu⟩ := nextTok hl ht (by omega)
 have hu1 : l[(i + 1).toNat]? = some u := by rw [show (i + 1).toNat = i.toNat + 1 by omega]; exact hu
 obtain ⟨hh, htl⟩ := hdT_at ht
 have hm : mkB (l.drop i.toNat).tail [58] = mkB (l.drop (i + 1).toNat) [58] := by rw [htl, show (i + 1).toNat = i.toNat + 1 by omega]
 unfold elR
 rw [if_pos rfl, hh, if_pos t1, hm]
 rcases need_at (c := ⟨i + 1, d, 0, 0⟩) (t := [58]) rfl hu1 with ⟨hb, hn⟩ | ⟨hb, hn⟩
 · have hb : mkB (l.drop (i + 1).toNat) [58] = true := hb
   rw [if_pos hb]
   rw [hn] at h1
   subst h1
   unfold stR
   rw [if_neg (fun h => h rfl), htl]
   show ((valR (24 - d).toNat (l.drop (i.toNat + 1)).tail m).map _) = ((valR (24 - d).toNat (l.drop (i + 1 + 1).toNat) m).map _)
   rw [(hdT_at hu).2, show (i + 1 + 1).toNat = i.toNat + 1 + 1 by omega]
 · have hb : mkB (l.drop (i + 1).toNat) [58] = false := hb
   rw [if_neg (by rw [hb]; decide)]
   rw [hn] at h1
   subst h1
   unfold stR
   rw [if_pos (oddE_ne u), htl]
   unfold oddR
   rw [(hdT_at hu).1]; rfl
theorem rec_el_no {l : List TokT} {i d m : Int} {t : TokT} {f : RawP → List WordT × RawP} (ht : l[i.toNat]? = some t) (t1 : t.1 ≠ 1) :
 elR (valR (24 - d).toNat) true (l.drop i.toNat) m = (stR l ⟨i, d, (oddE t).1, t.2.1⟩ m).map f := by
 obtain ⟨hh, htl⟩ := hdT_at ht
 unfold elR stR
 rw [if_pos rfl, hh, if_neg t1, if_pos (oddE_ne t)]
 unfold oddR
 rw [hh]; rfl
set_option maxRecDepth 20000 in
set_option maxHeartbeats 8000000 in
theorem rec1_c (rb cb : Nat) (p : Option Addr) (q : Nat) (l : List TokT) (i d m : Int) (vb vx rx : Nat) (k a : Int) (x : Acc) (hv : ValSpec d) (hl : TokOk l) (hli : TokI l) (hc : CurOk l ⟨i, d, 0, 0⟩) (hm0 : 0 ≤ m) (hm : m ≤ 4096) (hz : x.zs.length ≤ i.toNat) (hk : x.ks.length ≤ i.toNat) :
 CallsE Tryz.prog 82 [ptr rx, ptr vx] (rrE rb cb p q l ⟨i, d, 0, 0⟩ m ++ accE vb vx rx rb k a x) (EP rb cb p q l i d m (valR (24 - d).toNat) true vb vx rx k a x) := by
 obtain ⟨ks, pk, ck, zs, pz, cz⟩ := x
 simp only at hz hk
 have hbig := hl.big
 have i1 := hc.i1
 have i0 := hc.i0
 simp only at i1 i0
 have hup : ∀ vs : List Value, vs.length = 6 → upd (zs.flatMap rawV ++ [.int .i64 0, .int .i64 0, .int .i64 0, S [], .slice none 0 0, .slice none 0 0]) (0 + zs.length * 6) vs = zs.flatMap rawV ++ vs := fun vs hvs => by
  rw [Nat.zero_add, ← flat6 zs]; exact upd_all _ _ _ (by rw [hvs]; rfl)
 have hlen : ∀ vs : List Value, vs.length = 6 → 0 + zs.length * 6 + vs.length ≤ (zs.flatMap rawV ++ [.int .i64 0, .int .i64 0, .int .i64 0, S [], .slice none 0 0, .slice none 0 0]).length := fun vs hvs => by
  rw [List.length_append, flat6, hvs, Nat.zero_add]; exact Nat.le_refl _
 obtain ⟨t, ht⟩ : ∃ t, l[i.toNat]? = some t := ⟨_, List.getElem?_eq_getElem (by omega)⟩
 have hpk := peek_at (c := ⟨i, d, 0, 0⟩) rfl ht
 by_cases t1 : t.1 = 1
 · have htk : takT l ⟨i, d, 0, 0⟩ 1 = true := by unfold takT; rw [hpk, t1]; rfl
   have hnx := next_at (c := ⟨i, d, 0, 0⟩) rfl ht (by omega)
   have hc0 := hc.next hl
   have htake := cur_take_t cb p q l ⟨i, d, 0, 0⟩ hl hc 1 htk
   rw [hpk, hnx] at htake
   rw [hnx] at hc0
   have hneed := cur_need cb p q l ⟨i + 1, d, 0, 0⟩ hl hc0 [58]
   have hc1 := hc0.need hl [58]
   have hd1 := need_d l ⟨i + 1, d, 0, 0⟩ [58]
   have hi1 := need_i l ⟨i + 1, d, 0, 0⟩ [58]
   have ha1 : (needT l ⟨i + 1, d, 0, 0⟩ [58]).e = 0 → (needT l ⟨i + 1, d, 0, 0⟩ [58]).a = 0 := fun h => by
    obtain ⟨u, hu⟩ := nextTok hl ht (by omega)
    have hu1 : l[(i + 1).toNat]? = some u := by rw [show (i + 1).toNat = i.toNat + 1 by omega]; exact hu
    rcases need_at (c := ⟨i + 1, d, 0, 0⟩) (t := [58]) rfl hu1 with ⟨_, hn⟩ | ⟨_, hn⟩
    · rw [hn]
    · rw [hn] at h; exact absurd h (oddE_ne u)
   obtain ⟨c1, h1⟩ : ∃ c1, needT l ⟨i + 1, d, 0, 0⟩ [58] = c1 := ⟨_, rfl⟩
   have hel := rec_el (m := m) hl hc ht t1 h1
   rw [h1] at hneed hc1 hd1 hi1 ha1
   simp only at hd1 hi1
   have hval := hv rb cb p q l c1 m hl hli hc1 hd1 ha1 hm0 hm
   cases hr : stR l c1 m with
   | ok v l' m' =>
    refine sy_enterE rfl rfl (fun w => ?_)
    simp only [initFr, rrE, accE, curE, List.cons_append, List.nil_append]
    refine sy_order [0, 1, 2, 5, 4, 3, 6, 7, 8] rfl rfl ?_
    simp only [List.set_cons_zero, List.set_cons_succ, List.filterMap_cons, List.filterMap_nil, List.getElem?_cons_zero, List.getElem?_cons_succ]
    repeat (first | refine sy_k rfl rfl ?_ | (refine gO ?_; first | refine sy_ov (ov_p rfl) rfl rfl ?_ | (refine gL ?_; first | refine sy_ov (ov_ld 2 rfl rfl rfl) rfl rfl ?_ | refine sy_ov (ov_ld 3 rfl rfl rfl) rfl rfl ?_) | refine sy_ov (ov_fieldAddr rfl rfl rfl) rfl rfl ?_))
    refine sy_order [0, 1, 2, 3, 4, 5, 6, 7, 8] rfl rfl ?_
    simp only [List.set_cons_zero, List.set_cons_succ, List.filterMap_cons, List.filterMap_nil, List.getElem?_cons_zero, List.getElem?_cons_succ]
    refine sy_callE (curE cb p q l _) rfl rfl rfl (htake) ?_
    rintro _ _ ⟨rfl, rfl⟩
    simp only [curE, List.cons_append, List.nil_append]
    repeat (first | refine sy_k rfl rfl ?_ | (refine gO ?_; first | refine sy_ov (ov_p rfl) rfl rfl ?_ | (refine gL ?_; first | refine sy_ov (ov_ld 3 rfl rfl rfl) rfl rfl ?_ | refine sy_ov (ov_ld 4 rfl rfl rfl) rfl rfl ?_) | (refine gS ?_; refine sy_store 0 rfl rfl rfl rfl rfl rfl rfl rfl ?_) | refine sy_ov (ov_fieldAddr rfl rfl rfl) rfl rfl ?_ | (refine sy_alloc rfl rfl rfl ?_; intro _)) | (refine sy_cond_f rfl ?_ ?_; (first | with_reducible rfl | assumption | omega | (simp <;> first | omega | assumption))))
    refine sy_order [1, 2, 3, 0, 4, 5, 6, 7, 8, 9] rfl rfl ?_
    simp only [List.set_cons_zero, List.set_cons_succ, List.filterMap_cons, List.filterMap_nil, List.getElem?_cons_zero, List.getElem?_cons_succ]
    refine sy_callE (curE cb p q l _) rfl rfl rfl (hneed) ?_
    rintro _ _ ⟨rfl, rfl⟩
    simp only [curE, List.cons_append, List.nil_append]
    repeat (refine sy_k rfl rfl ?_)
    refine sy_order [3, 0, 1, 2, 6, 5, 4, 7, 8, 9] rfl rfl ?_
    simp only [List.set_cons_zero, List.set_cons_succ, List.filterMap_cons, List.filterMap_nil, List.getElem?_cons_zero, List.getElem?_cons_succ]
    refine sy_drawE _ 12 [(0, false), (1, false), (2, false), (3, false), (4, false), (5, false), (6, false), (7, false), (8, false), (9, false), (10, true), (11, true)] (by kernel_rfl) rfl (sk (sd (sd (sd (sk (sk (sd (sd (sd (sd sr)))))))))) ?_
    repeat (first | refine dre_rd (fun _ _ => ov_p rfl) rfl ?_ | refine dre_rd (fun _ _ => ov_ld 0 rfl rfl rfl) rfl ?_ | refine dre_rd (fun _ _ => ov_ld 1 rfl rfl rfl) rfl ?_ | refine dre_rd (fun _ _ => ov_ld 2 rfl rfl rfl) rfl ?_ | refine dre_rd (fun _ _ => ov_fieldAddr rfl rfl rfl) rfl ?_ | refine dre_rd (fun _ _ => ov_build rfl rfl rfl) rfl ?_)
    refine dre_ef rfl ?_
    refine sy_buildSlice rfl rfl rfl rfl rfl rfl rfl rfl ?_
    intro nb
    refine dre_ek (sd (sk (sd (sd (sd (sk (sk (sd (sd (sd (sd sr))))))))))) ?_
    refine dre_ef rfl ?_
    refine sy_append 8 0 rfl rfl rfl rfl rfl rfl rfl rfl rfl rfl rfl (by omega) (by refine Nat.le_trans (Nat.mul_le_mul_left _ (Nat.le_of_ble_eq_true (m := 1024) rfl)) ?_; omega) ?_
    intro pk' ck'
    refine dre_ek (sd (sk (sd (sd (sd (sk (sk (sd (sd (sd (sd sr))))))))))) ?_
    repeat (refine dre_end ?_)
    refine sy_weaken (fun _ _ h => h) (sd (sd sr)) ?_
    repeat (first | refine sy_k rfl rfl ?_ | (refine gO ?_; first | refine sy_ov (ov_p rfl) rfl rfl ?_ | (refine gS ?_; refine sy_store 3 rfl rfl rfl rfl rfl rfl rfl rfl ?_) | refine sy_ov (ov_fieldAddr rfl rfl rfl) rfl rfl ?_))
    refine sy_two 1 2 (by kernel_rfl) ?_ ?_
    · refine any_drawE _ 3 [(0, true), (1, true), (2, true)] (by kernel_rfl) rfl sr ?_
      refine dre_ef rfl ?_
      refine sy_alloc rfl rfl rfl ?_
      intro nb
      refine dre_ek (sd sr) ?_
      repeat (first | (refine dre_ef rfl ?_; refine sy_store 0 rfl rfl rfl rfl rfl rfl rfl rfl ?_; refine dre_ek (by repeat first | exact sr | apply sk | apply sd) ?_) | refine dre_end ?_)
      simp only [addE, edged]
      repeat (first | refine sy_k rfl rfl ?_ | (refine gO ?_; (refine gL ?_; refine sy_ov (ov_ld 0 rfl rfl rfl) rfl rfl ?_)) | (refine sy_cond_f rfl ?_ ?_; (first | with_reducible rfl | assumption | omega | (simp <;> first | omega | assumption))))
      refine sy_weaken (fun _ _ h => h) (sd sr) ?_
      refine sy_drawE _ 9 [(0, false), (1, false), (2, false), (3, false), (4, false), (5, false), (6, true), (7, true), (8, true)] (by kernel_rfl) rfl (sd (sd (sd (sk (sk (sk (sd (sd (sd sr))))))))) ?_
      repeat (first | refine dre_rd (fun _ _ => ov_p rfl) rfl ?_ | refine dre_rd (fun _ _ => ov_ld 0 rfl rfl rfl) rfl ?_ | refine dre_rd (fun _ _ => ov_ld 1 rfl rfl rfl) rfl ?_ | refine dre_rd (fun _ _ => ov_ld 2 rfl rfl rfl) rfl ?_ | refine dre_rd (fun _ _ => ov_fieldAddr rfl rfl rfl) rfl ?_)
      refine dre_ef rfl ?_
      refine sy_callE (rrE rb cb p q l c1 m) rfl rfl rfl hval ?_
      intro u es' hV
      simp only [VP, hr] at hV
      obtain ⟨z, i', rfl, rfl, hpl, hl', hlt, hc', hm0', hm1'⟩ := hV
      rw [hd1] at hc' ⊢
      have hz1 : plR z = v := hpl
      have hP : ∀ p' q', EP rb cb p q l i d m (valR (24 - d).toNat) true vb vx rx k a ⟨ks, pk, ck, zs, pz, cz⟩ (.tuple #[]) (rrE rb cb p q l ⟨i', d, 0, 0⟩ m' ++ accE vb vx rx rb k a ⟨ks ++ [(t.2.2.2.1, t.2.1)], some pk', ck', zs ++ [z], p', q'⟩) := fun p' q' =>
       ⟨rfl, by rw [hel, hr]; exact ⟨z, i', ⟨ks ++ [(t.2.2.2.1, t.2.1)], some pk', ck', zs ++ [z], p', q'⟩, rfl, rfl, rfl, hz1, hl', by omega, hc', hm0', hm1'⟩⟩
      have e1 : (zs ++ [z]).length = zs.length + 1 := by simp
      have e2 : (zs ++ [z]).flatMap rawV = zs.flatMap rawV ++ rawV z := by simp
      have e3 : (ks ++ [((t.2.2.2.1, t.2.1) : WordT)]).length = ks.length + 1 := by simp
      have e4 : (ks ++ [((t.2.2.2.1, t.2.1) : WordT)]).flatMap wordV = ks.flatMap wordV ++ wordV (t.2.2.2.1, t.2.1) := by simp
      obtain ⟨zk, za, zn, zsx, zpk, zck, zkeys, zp, zc, zkids⟩ := z
      simp only [rrE, curE, List.cons_append, List.nil_append]
      refine dre_ek (sd (sd (sd (sd (sk (sk (sk (sd (sd (sd sr)))))))))) ?_
      skip
      refine dre_ef rfl ?_
      refine sy_buildSlice rfl rfl rfl rfl rfl rfl rfl rfl ?_
      intro nb
      refine dre_ek (sd (sd (sd (sd (sd (sk (sk (sk (sd (sd (sd sr))))))))))) ?_
      refine dre_ef rfl ?_
      have h1a : oneAll (rawV (.mk zk za zn zsx zpk zck zkeys zp zc zkids)) = true := rfl
      refine sy_append 9 0 rfl rfl rfl rfl rfl rfl rfl rfl h1a rfl rfl (by omega) (by refine Nat.le_trans (Nat.mul_le_mul_left _ (Nat.le_of_ble_eq_true (m := 1024) rfl)) ?_; omega) ?_
      intro p' q'
      refine dre_ek (sd (sd (sd (sd (sd (sk (sk (sk (sd (sd (sd sr))))))))))) ?_
      repeat (refine dre_end ?_)
      refine sy_weaken (fun _ _ h => h) (sd sr) ?_
      repeat (first | refine sy_k rfl rfl ?_ | (refine gO ?_; first | refine sy_ov (ov_p rfl) rfl rfl ?_ | (refine gS ?_; refine sy_store 4 rfl rfl rfl rfl rfl rfl rfl rfl ?_) | refine sy_ov (ov_fieldAddr rfl rfl rfl) rfl rfl ?_))
      refine sy_order [9, 3, 0, 1, 2, 4, 5, 6, 7, 8] rfl rfl ?_
      simp only [List.set_cons_zero, List.set_cons_succ, List.filterMap_cons, List.filterMap_nil, List.getElem?_cons_zero, List.getElem?_cons_succ]
      refine sy_rawAdd ?_
      refine sy_order [1, 2, 3, 4, 5, 6, 7, 8, 0] rfl rfl ?_
      simp only [List.set_cons_zero, List.set_cons_succ, List.filterMap_cons, List.filterMap_nil, List.getElem?_cons_zero, List.getElem?_cons_succ]
      exact end0w rfl fun w' hw' => postE hw' _ (sub_self (by simp only [rrE, accE, vC, curE, List.cons_append, List.nil_append]; rw [e1, e2, e3, e4]; exact sr)) rfl (hP (some p') q')
    · refine any_drawE _ 3 [(0, true), (2, true), (1, true)] (by kernel_rfl) rfl sr ?_
      refine dre_ef rfl ?_
      refine sy_alloc rfl rfl rfl ?_
      intro nb
      refine dre_ek (sd sr) ?_
      repeat (first | (refine dre_ef rfl ?_; refine sy_store 0 rfl rfl rfl rfl rfl rfl rfl rfl ?_; refine dre_ek (by repeat first | exact sr | apply sk | apply sd) ?_) | refine dre_end ?_)
      simp only [addE, edged]
      repeat (first | refine sy_k rfl rfl ?_ | (refine gO ?_; (refine gL ?_; refine sy_ov (ov_ld 0 rfl rfl rfl) rfl rfl ?_)) | (refine sy_cond_t rfl ?_ ?_; (first | with_reducible rfl | assumption | omega | (simp <;> first | omega | assumption))))
      refine sy_weaken (fun _ _ h => h) (sd sr) ?_
      refine sy_two 5 7 (by kernel_rfl) ?_ ?_
      · refine any_drawE _ 8 [(0, false), (1, false), (2, false), (3, false), (4, false), (6, false), (5, true), (7, true)] (by kernel_rfl) rfl (sd (sd (sd (sk (sk (sk (sd (sd (sd sr))))))))) ?_
        repeat (first | refine dre_rd (fun _ _ => ov_p rfl) rfl ?_ | refine dre_rd (fun _ _ => ov_lens rfl) rfl ?_ | refine dre_rd (fun _ _ => ov_ld 0 rfl rfl rfl) rfl ?_ | refine dre_rd (fun _ _ => ov_ld 1 rfl rfl rfl) rfl ?_ | refine dre_rd (fun _ _ => ov_ld 2 rfl rfl rfl) rfl ?_ | refine dre_rd (fun _ _ => ov_fieldAddr rfl rfl rfl) rfl ?_)
        refine dre_ef rfl ?_
        refine sy_callE (rrE rb cb p q l c1 m) rfl rfl rfl hval ?_
        intro u es' hV
        simp only [VP, hr] at hV
        obtain ⟨z, i', rfl, rfl, hpl, hl', hlt, hc', hm0', hm1'⟩ := hV
        rw [hd1] at hc' ⊢
        have hz1 : plR z = v := hpl
        have hP : ∀ p' q', EP rb cb p q l i d m (valR (24 - d).toNat) true vb vx rx k a ⟨ks, pk, ck, zs, pz, cz⟩ (.tuple #[]) (rrE rb cb p q l ⟨i', d, 0, 0⟩ m' ++ accE vb vx rx rb k a ⟨ks ++ [(t.2.2.2.1, t.2.1)], some pk', ck', zs ++ [z], p', q'⟩) := fun p' q' =>
         ⟨rfl, by rw [hel, hr]; exact ⟨z, i', ⟨ks ++ [(t.2.2.2.1, t.2.1)], some pk', ck', zs ++ [z], p', q'⟩, rfl, rfl, rfl, hz1, hl', by omega, hc', hm0', hm1'⟩⟩
        have e1 : (zs ++ [z]).length = zs.length + 1 := by simp
        have e2 : (zs ++ [z]).flatMap rawV = zs.flatMap rawV ++ rawV z := by simp
        have e3 : (ks ++ [((t.2.2.2.1, t.2.1) : WordT)]).length = ks.length + 1 := by simp
        have e4 : (ks ++ [((t.2.2.2.1, t.2.1) : WordT)]).flatMap wordV = ks.flatMap wordV ++ wordV (t.2.2.2.1, t.2.1) := by simp
        obtain ⟨zk, za, zn, zsx, zpk, zck, zkeys, zp, zc, zkids⟩ := z
        simp only [rrE, curE, List.cons_append, List.nil_append]
        refine dre_ek (sd (sd (sd (sd (sk (sk (sk (sd (sd (sd sr)))))))))) ?_
        refine dre_ef rfl ?_
        refine sy_buildSlice rfl rfl rfl rfl rfl rfl rfl rfl ?_
        intro nb
        refine dre_ek (sd (sd (sd (sd (sd (sk (sk (sk (sd (sd (sd sr))))))))))) ?_
        repeat (refine dre_end ?_)
        simp only [addE, edged]
        skip
        have h1a : oneAll [.int .i64 0, .int .i64 0, .int .i64 0, S [], .slice none 0 0, .slice none 0 0] = true := rfl
        refine sy_append 9 0 rfl rfl rfl rfl rfl rfl rfl rfl h1a rfl rfl (by omega) (by refine Nat.le_trans (Nat.mul_le_mul_left _ (Nat.le_of_ble_eq_true (m := 1024) rfl)) ?_; omega) ?_
        intro p' q'
        refine sy_weaken (fun _ _ h => h) (sd sr) ?_
        refine sy_vecAddr 8 rfl (by omega) ?_
        rintro g ⟨rfl⟩
        repeat (first | refine sy_k rfl rfl ?_ | (refine gO ?_; first | refine sy_ov (ov_p rfl) rfl rfl ?_ | (refine gS ?_; refine sy_store 4 rfl rfl rfl rfl rfl rfl rfl rfl ?_) | refine sy_ov (ov_fieldAddr rfl rfl rfl) rfl rfl ?_ | (refine sy_ov (ov_indexAddr rfl rfl ?_ ?_) rfl rfl ?_; omega; omega)))
        refine sy_storev 8 rfl rfl rfl rfl rfl rfl ?_ rfl (hup (rawV (.mk zk za zn zsx zpk zck zkeys zp zc zkids)) rfl) ?_
        focus exact hlen (rawV (.mk zk za zn zsx zpk zck zkeys zp zc zkids)) rfl
        repeat (refine sy_k rfl rfl ?_)
        refine sy_order [9, 3, 0, 1, 2, 4, 5, 6, 7, 8] rfl rfl ?_
        simp only [List.set_cons_zero, List.set_cons_succ, List.filterMap_cons, List.filterMap_nil, List.getElem?_cons_zero, List.getElem?_cons_succ]
        refine sy_rawAdd ?_
        refine sy_order [1, 2, 3, 4, 5, 6, 7, 8, 0] rfl rfl ?_
        simp only [List.set_cons_zero, List.set_cons_succ, List.filterMap_cons, List.filterMap_nil, List.getElem?_cons_zero, List.getElem?_cons_succ]
        exact end0w rfl fun w' hw' => postE hw' _ (sub_self (by simp only [rrE, accE, vC, curE, List.cons_append, List.nil_append]; rw [e1, e2, e3, e4]; exact sr)) rfl (hP (some ⟨g, 0, none⟩) q')
      · refine any_drawE _ 8 [(0, false), (1, false), (2, false), (3, false), (4, false), (6, false), (7, true), (5, true)] (by kernel_rfl) rfl (sd (sd (sd (sk (sk (sk (sd (sd (sd sr))))))))) ?_
        repeat (first | refine dre_rd (fun _ _ => ov_p rfl) rfl ?_ | refine dre_rd (fun _ _ => ov_lens rfl) rfl ?_ | refine dre_rd (fun _ _ => ov_ld 0 rfl rfl rfl) rfl ?_ | refine dre_rd (fun _ _ => ov_ld 1 rfl rfl rfl) rfl ?_ | refine dre_rd (fun _ _ => ov_ld 2 rfl rfl rfl) rfl ?_ | refine dre_rd (fun _ _ => ov_fieldAddr rfl rfl rfl) rfl ?_)
        refine dre_ef rfl ?_
        refine sy_buildSlice rfl rfl rfl rfl rfl rfl rfl rfl ?_
        intro nb
        refine dre_ek (sd (sd (sd (sd (sk (sk (sk (sd (sd (sd sr)))))))))) ?_
        refine dre_ef rfl ?_
        refine sy_order [1, 2, 3, 0, 4, 5, 6, 7, 8, 9] rfl rfl ?_
        simp only [List.set_cons_zero, List.set_cons_succ, List.filterMap_cons, List.filterMap_nil, List.getElem?_cons_zero, List.getElem?_cons_succ]
        refine sy_callE (rrE rb cb p q l c1 m) rfl rfl rfl hval ?_
        intro u es' hV
        simp only [VP, hr] at hV
        obtain ⟨z, i', rfl, rfl, hpl, hl', hlt, hc', hm0', hm1'⟩ := hV
        rw [hd1] at hc' ⊢
        have hz1 : plR z = v := hpl
        have hP : ∀ p' q', EP rb cb p q l i d m (valR (24 - d).toNat) true vb vx rx k a ⟨ks, pk, ck, zs, pz, cz⟩ (.tuple #[]) (rrE rb cb p q l ⟨i', d, 0, 0⟩ m' ++ accE vb vx rx rb k a ⟨ks ++ [(t.2.2.2.1, t.2.1)], some pk', ck', zs ++ [z], p', q'⟩) := fun p' q' =>
         ⟨rfl, by rw [hel, hr]; exact ⟨z, i', ⟨ks ++ [(t.2.2.2.1, t.2.1)], some pk', ck', zs ++ [z], p', q'⟩, rfl, rfl, rfl, hz1, hl', by omega, hc', hm0', hm1'⟩⟩
        have e1 : (zs ++ [z]).length = zs.length + 1 := by simp
        have e2 : (zs ++ [z]).flatMap rawV = zs.flatMap rawV ++ rawV z := by simp
        have e3 : (ks ++ [((t.2.2.2.1, t.2.1) : WordT)]).length = ks.length + 1 := by simp
        have e4 : (ks ++ [((t.2.2.2.1, t.2.1) : WordT)]).flatMap wordV = ks.flatMap wordV ++ wordV (t.2.2.2.1, t.2.1) := by simp
        obtain ⟨zk, za, zn, zsx, zpk, zck, zkeys, zp, zc, zkids⟩ := z
        simp only [rrE, curE, List.cons_append, List.nil_append]
        refine dre_ek (sd (sd (sd (sd (sd (sk (sk (sk (sd (sd (sd sr))))))))))) ?_
        repeat (refine dre_end ?_)
        simp only [addE, edged]
        refine sy_order [4, 0, 1, 2, 3, 5, 6, 7, 8, 9, 10] rfl rfl ?_
        simp only [List.set_cons_zero, List.set_cons_succ, List.filterMap_cons, List.filterMap_nil, List.getElem?_cons_zero, List.getElem?_cons_succ]
        skip
        have h1a : oneAll [.int .i64 0, .int .i64 0, .int .i64 0, S [], .slice none 0 0, .slice none 0 0] = true := rfl
        refine sy_append 9 0 rfl rfl rfl rfl rfl rfl rfl rfl h1a rfl rfl (by omega) (by refine Nat.le_trans (Nat.mul_le_mul_left _ (Nat.le_of_ble_eq_true (m := 1024) rfl)) ?_; omega) ?_
        intro p' q'
        refine sy_weaken (fun _ _ h => h) (sd sr) ?_
        refine sy_vecAddr 8 rfl (by omega) ?_
        rintro g ⟨rfl⟩
        repeat (first | refine sy_k rfl rfl ?_ | (refine gO ?_; first | refine sy_ov (ov_p rfl) rfl rfl ?_ | (refine gS ?_; refine sy_store 4 rfl rfl rfl rfl rfl rfl rfl rfl ?_) | refine sy_ov (ov_fieldAddr rfl rfl rfl) rfl rfl ?_ | (refine sy_ov (ov_indexAddr rfl rfl ?_ ?_) rfl rfl ?_; omega; omega)))
        refine sy_storev 8 rfl rfl rfl rfl rfl rfl ?_ rfl (hup (rawV (.mk zk za zn zsx zpk zck zkeys zp zc zkids)) rfl) ?_
        focus exact hlen (rawV (.mk zk za zn zsx zpk zck zkeys zp zc zkids)) rfl
        repeat (refine sy_k rfl rfl ?_)
        refine sy_order [9, 3, 0, 1, 2, 4, 5, 6, 7, 8] rfl rfl ?_
        simp only [List.set_cons_zero, List.set_cons_succ, List.filterMap_cons, List.filterMap_nil, List.getElem?_cons_zero, List.getElem?_cons_succ]
        refine sy_rawAdd ?_
        refine sy_order [1, 2, 3, 4, 5, 6, 7, 8, 0] rfl rfl ?_
        simp only [List.set_cons_zero, List.set_cons_succ, List.filterMap_cons, List.filterMap_nil, List.getElem?_cons_zero, List.getElem?_cons_succ]
        exact end0w rfl fun w' hw' => postE hw' _ (sub_self (by simp only [rrE, accE, vC, curE, List.cons_append, List.nil_append]; rw [e1, e2, e3, e4]; exact sr)) rfl (hP (some ⟨g, 0, none⟩) q')
   | bad e a' =>
    refine sy_enterE rfl rfl (fun w => ?_)
    simp only [initFr, rrE, accE, curE, List.cons_append, List.nil_append]
    refine sy_order [0, 1, 2, 5, 4, 3, 6, 7, 8] rfl rfl ?_
    simp only [List.set_cons_zero, List.set_cons_succ, List.filterMap_cons, List.filterMap_nil, List.getElem?_cons_zero, List.getElem?_cons_succ]
    repeat (first | refine sy_k rfl rfl ?_ | (refine gO ?_; first | refine sy_ov (ov_p rfl) rfl rfl ?_ | (refine gL ?_; first | refine sy_ov (ov_ld 2 rfl rfl rfl) rfl rfl ?_ | refine sy_ov (ov_ld 3 rfl rfl rfl) rfl rfl ?_) | refine sy_ov (ov_fieldAddr rfl rfl rfl) rfl rfl ?_))
    refine sy_order [0, 1, 2, 3, 4, 5, 6, 7, 8] rfl rfl ?_
    simp only [List.set_cons_zero, List.set_cons_succ, List.filterMap_cons, List.filterMap_nil, List.getElem?_cons_zero, List.getElem?_cons_succ]
    refine sy_callE (curE cb p q l _) rfl rfl rfl (htake) ?_
    rintro _ _ ⟨rfl, rfl⟩
    simp only [curE, List.cons_append, List.nil_append]
    repeat (first | refine sy_k rfl rfl ?_ | (refine gO ?_; first | refine sy_ov (ov_p rfl) rfl rfl ?_ | (refine gL ?_; first | refine sy_ov (ov_ld 3 rfl rfl rfl) rfl rfl ?_ | refine sy_ov (ov_ld 4 rfl rfl rfl) rfl rfl ?_) | (refine gS ?_; refine sy_store 0 rfl rfl rfl rfl rfl rfl rfl rfl ?_) | refine sy_ov (ov_fieldAddr rfl rfl rfl) rfl rfl ?_ | (refine sy_alloc rfl rfl rfl ?_; intro _)) | (refine sy_cond_f rfl ?_ ?_; (first | with_reducible rfl | assumption | omega | (simp <;> first | omega | assumption))))
    refine sy_order [1, 2, 3, 0, 4, 5, 6, 7, 8, 9] rfl rfl ?_
    simp only [List.set_cons_zero, List.set_cons_succ, List.filterMap_cons, List.filterMap_nil, List.getElem?_cons_zero, List.getElem?_cons_succ]
    refine sy_callE (curE cb p q l _) rfl rfl rfl (hneed) ?_
    rintro _ _ ⟨rfl, rfl⟩
    simp only [curE, List.cons_append, List.nil_append]
    repeat (refine sy_k rfl rfl ?_)
    refine sy_order [3, 0, 1, 2, 6, 5, 4, 7, 8, 9] rfl rfl ?_
    simp only [List.set_cons_zero, List.set_cons_succ, List.filterMap_cons, List.filterMap_nil, List.getElem?_cons_zero, List.getElem?_cons_succ]
    refine sy_drawE _ 12 [(0, false), (1, false), (2, false), (3, false), (4, false), (5, false), (6, false), (7, false), (8, false), (9, false), (10, true), (11, true)] (by kernel_rfl) rfl (sk (sd (sd (sd (sk (sk (sd (sd (sd (sd sr)))))))))) ?_
    repeat (first | refine dre_rd (fun _ _ => ov_p rfl) rfl ?_ | refine dre_rd (fun _ _ => ov_ld 0 rfl rfl rfl) rfl ?_ | refine dre_rd (fun _ _ => ov_ld 1 rfl rfl rfl) rfl ?_ | refine dre_rd (fun _ _ => ov_ld 2 rfl rfl rfl) rfl ?_ | refine dre_rd (fun _ _ => ov_fieldAddr rfl rfl rfl) rfl ?_ | refine dre_rd (fun _ _ => ov_build rfl rfl rfl) rfl ?_)
    refine dre_ef rfl ?_
    refine sy_buildSlice rfl rfl rfl rfl rfl rfl rfl rfl ?_
    intro nb
    refine dre_ek (sd (sk (sd (sd (sd (sk (sk (sd (sd (sd (sd sr))))))))))) ?_
    refine dre_ef rfl ?_
    refine sy_append 8 0 rfl rfl rfl rfl rfl rfl rfl rfl rfl rfl rfl (by omega) (by refine Nat.le_trans (Nat.mul_le_mul_left _ (Nat.le_of_ble_eq_true (m := 1024) rfl)) ?_; omega) ?_
    intro pk' ck'
    refine dre_ek (sd (sk (sd (sd (sd (sk (sk (sd (sd (sd (sd sr))))))))))) ?_
    repeat (refine dre_end ?_)
    refine sy_weaken (fun _ _ h => h) (sd (sd sr)) ?_
    repeat (first | refine sy_k rfl rfl ?_ | (refine gO ?_; first | refine sy_ov (ov_p rfl) rfl rfl ?_ | (refine gS ?_; refine sy_store 3 rfl rfl rfl rfl rfl rfl rfl rfl ?_) | refine sy_ov (ov_fieldAddr rfl rfl rfl) rfl rfl ?_))
    refine sy_two 1 2 (by kernel_rfl) ?_ ?_
    · refine any_drawE _ 3 [(0, true), (1, true), (2, true)] (by kernel_rfl) rfl sr ?_
      refine dre_ef rfl ?_
      refine sy_alloc rfl rfl rfl ?_
      intro nb
      refine dre_ek (sd sr) ?_
      repeat (first | (refine dre_ef rfl ?_; refine sy_store 0 rfl rfl rfl rfl rfl rfl rfl rfl ?_; refine dre_ek (by repeat first | exact sr | apply sk | apply sd) ?_) | refine dre_end ?_)
      simp only [addE, edged]
      repeat (first | refine sy_k rfl rfl ?_ | (refine gO ?_; (refine gL ?_; refine sy_ov (ov_ld 0 rfl rfl rfl) rfl rfl ?_)) | (refine sy_cond_f rfl ?_ ?_; (first | with_reducible rfl | assumption | omega | (simp <;> first | omega | assumption))))
      refine sy_weaken (fun _ _ h => h) (sd sr) ?_
      refine sy_drawE _ 9 [(0, false), (1, false), (2, false), (3, false), (4, false), (5, false), (6, true), (7, true), (8, true)] (by kernel_rfl) rfl (sd (sd (sd (sk (sk (sk (sd (sd (sd sr))))))))) ?_
      repeat (first | refine dre_rd (fun _ _ => ov_p rfl) rfl ?_ | refine dre_rd (fun _ _ => ov_ld 0 rfl rfl rfl) rfl ?_ | refine dre_rd (fun _ _ => ov_ld 1 rfl rfl rfl) rfl ?_ | refine dre_rd (fun _ _ => ov_ld 2 rfl rfl rfl) rfl ?_ | refine dre_rd (fun _ _ => ov_fieldAddr rfl rfl rfl) rfl ?_)
      refine dre_ef rfl ?_
      refine sy_callE (rrE rb cb p q l c1 m) rfl rfl rfl hval ?_
      intro u es' hV
      simp only [VP, hr] at hV
      obtain ⟨cs, c', m', rfl, hc6, hone, rfl, hB, hm0', hm1'⟩ := hV
      have hP : ∀ cs, cs.length = 6 → oneAll cs = true → EP rb cb p q l i d m (valR (24 - d).toNat) true vb vx rx k a ⟨ks, pk, ck, zs, pz, cz⟩ (.tuple #[]) (rrE rb cb p q l c' m' ++ [blk vb 26 cs]) := fun cs h1 h2 =>
       ⟨rfl, by rw [hel, hr]; exact ⟨c', m', cs, rfl, h1, h2, hB, hm0', hm1'⟩⟩
      obtain ⟨c0, c1', c2, c3, c4, c5, rfl⟩ := six hc6
      simp only [rrE, curE, List.cons_append, List.nil_append]
      refine dre_ek (sd (sd (sd (sk (sk (sk (sd (sd (sd sr))))))))) ?_
      skip
      refine dre_ef rfl ?_
      refine sy_buildSlice rfl rfl rfl rfl rfl rfl rfl rfl ?_
      intro nb
      refine dre_ek (sd (sd (sd (sd (sk (sk (sk (sd (sd (sd sr)))))))))) ?_
      refine dre_ef rfl ?_
      have h1a := hone
      refine sy_append 8 0 rfl rfl rfl rfl rfl rfl rfl rfl h1a rfl rfl (by omega) (by refine Nat.le_trans (Nat.mul_le_mul_left _ (Nat.le_of_ble_eq_true (m := 1024) rfl)) ?_; omega) ?_
      intro p' q'
      refine dre_ek (sd (sd (sd (sd (sk (sk (sk (sd (sd (sd sr)))))))))) ?_
      repeat (refine dre_end ?_)
      refine sy_weaken (fun _ _ h => h) (sd sr) ?_
      repeat (first | refine sy_k rfl rfl ?_ | (refine gO ?_; first | refine sy_ov (ov_p rfl) rfl rfl ?_ | (refine gS ?_; refine sy_store 3 rfl rfl rfl rfl rfl rfl rfl rfl ?_) | refine sy_ov (ov_fieldAddr rfl rfl rfl) rfl rfl ?_))
      exact end0w rfl fun w' hw' => postE hw' (rrE rb cb p q l c' m' ++ [blk vb 26 (upd (upd (vC k a ⟨ks, pk, ck, zs, pz, cz⟩) 4 [.slice (some pk') (ks.length + 1) ck']) 5 [.slice (some p') (zs.length + 1) q'])]) (sub_self (by simp only [rrE, curE, List.cons_append, List.nil_append]; exact sk (sk (sk (sk (List.nil_sublist _)))))) rfl (hP _ rfl rfl)
    · refine any_drawE _ 3 [(0, true), (2, true), (1, true)] (by kernel_rfl) rfl sr ?_
      refine dre_ef rfl ?_
      refine sy_alloc rfl rfl rfl ?_
      intro nb
      refine dre_ek (sd sr) ?_
      repeat (first | (refine dre_ef rfl ?_; refine sy_store 0 rfl rfl rfl rfl rfl rfl rfl rfl ?_; refine dre_ek (by repeat first | exact sr | apply sk | apply sd) ?_) | refine dre_end ?_)
      simp only [addE, edged]
      repeat (first | refine sy_k rfl rfl ?_ | (refine gO ?_; (refine gL ?_; refine sy_ov (ov_ld 0 rfl rfl rfl) rfl rfl ?_)) | (refine sy_cond_t rfl ?_ ?_; (first | with_reducible rfl | assumption | omega | (simp <;> first | omega | assumption))))
      refine sy_weaken (fun _ _ h => h) (sd sr) ?_
      refine sy_two 5 7 (by kernel_rfl) ?_ ?_
      · refine any_drawE _ 8 [(0, false), (1, false), (2, false), (3, false), (4, false), (6, false), (5, true), (7, true)] (by kernel_rfl) rfl (sd (sd (sd (sk (sk (sk (sd (sd (sd sr))))))))) ?_
        repeat (first | refine dre_rd (fun _ _ => ov_p rfl) rfl ?_ | refine dre_rd (fun _ _ => ov_lens rfl) rfl ?_ | refine dre_rd (fun _ _ => ov_ld 0 rfl rfl rfl) rfl ?_ | refine dre_rd (fun _ _ => ov_ld 1 rfl rfl rfl) rfl ?_ | refine dre_rd (fun _ _ => ov_ld 2 rfl rfl rfl) rfl ?_ | refine dre_rd (fun _ _ => ov_fieldAddr rfl rfl rfl) rfl ?_)
        refine dre_ef rfl ?_
        refine sy_callE (rrE rb cb p q l c1 m) rfl rfl rfl hval ?_
        intro u es' hV
        simp only [VP, hr] at hV
        obtain ⟨cs, c', m', rfl, hc6, hone, rfl, hB, hm0', hm1'⟩ := hV
        have hP : ∀ cs, cs.length = 6 → oneAll cs = true → EP rb cb p q l i d m (valR (24 - d).toNat) true vb vx rx k a ⟨ks, pk, ck, zs, pz, cz⟩ (.tuple #[]) (rrE rb cb p q l c' m' ++ [blk vb 26 cs]) := fun cs h1 h2 =>
         ⟨rfl, by rw [hel, hr]; exact ⟨c', m', cs, rfl, h1, h2, hB, hm0', hm1'⟩⟩
        obtain ⟨c0, c1', c2, c3, c4, c5, rfl⟩ := six hc6
        simp only [rrE, curE, List.cons_append, List.nil_append]
        refine dre_ek (sd (sd (sd (sk (sk (sk (sd (sd (sd sr))))))))) ?_
        refine dre_ef rfl ?_
        refine sy_buildSlice rfl rfl rfl rfl rfl rfl rfl rfl ?_
        intro nb
        refine dre_ek (sd (sd (sd (sd (sk (sk (sk (sd (sd (sd sr)))))))))) ?_
        repeat (refine dre_end ?_)
        simp only [addE, edged]
        skip
        have h1a : oneAll [.int .i64 0, .int .i64 0, .int .i64 0, S [], .slice none 0 0, .slice none 0 0] = true := rfl
        refine sy_append 8 0 rfl rfl rfl rfl rfl rfl rfl rfl h1a rfl rfl (by omega) (by refine Nat.le_trans (Nat.mul_le_mul_left _ (Nat.le_of_ble_eq_true (m := 1024) rfl)) ?_; omega) ?_
        intro p' q'
        refine sy_weaken (fun _ _ h => h) (sd sr) ?_
        refine sy_vecAddr 7 rfl (by omega) ?_
        rintro g ⟨rfl⟩
        repeat (first | refine sy_k rfl rfl ?_ | (refine gO ?_; first | refine sy_ov (ov_p rfl) rfl rfl ?_ | (refine gS ?_; refine sy_store 3 rfl rfl rfl rfl rfl rfl rfl rfl ?_) | refine sy_ov (ov_fieldAddr rfl rfl rfl) rfl rfl ?_ | (refine sy_ov (ov_indexAddr rfl rfl ?_ ?_) rfl rfl ?_; omega; omega)))
        refine sy_storev 7 rfl rfl rfl rfl rfl hone ?_ rfl (hup [c0, c1', c2, c3, c4, c5] rfl) ?_
        focus exact hlen [c0, c1', c2, c3, c4, c5] rfl
        repeat (refine sy_k rfl rfl ?_)
        exact end0w rfl fun w' hw' => postE hw' (rrE rb cb p q l c' m' ++ [blk vb 26 (upd (upd (vC k a ⟨ks, pk, ck, zs, pz, cz⟩) 4 [.slice (some pk') (ks.length + 1) ck']) 5 [.slice (some ⟨g, 0, none⟩) (zs.length + 1) q'])]) (sub_self (by simp only [rrE, curE, List.cons_append, List.nil_append]; exact sk (sk (sk (sk (List.nil_sublist _)))))) rfl (hP _ rfl rfl)
      · refine any_drawE _ 8 [(0, false), (1, false), (2, false), (3, false), (4, false), (6, false), (7, true), (5, true)] (by kernel_rfl) rfl (sd (sd (sd (sk (sk (sk (sd (sd (sd sr))))))))) ?_
        repeat (first | refine dre_rd (fun _ _ => ov_p rfl) rfl ?_ | refine dre_rd (fun _ _ => ov_lens rfl) rfl ?_ | refine dre_rd (fun _ _ => ov_ld 0 rfl rfl rfl) rfl ?_ | refine dre_rd (fun _ _ => ov_ld 1 rfl rfl rfl) rfl ?_ | refine dre_rd (fun _ _ => ov_ld 2 rfl rfl rfl) rfl ?_ | refine dre_rd (fun _ _ => ov_fieldAddr rfl rfl rfl) rfl ?_)
        refine dre_ef rfl ?_
        refine sy_buildSlice rfl rfl rfl rfl rfl rfl rfl rfl ?_
        intro nb
        refine dre_ek (sd (sd (sd (sd (sk (sk (sk (sd (sd (sd sr)))))))))) ?_
        refine dre_ef rfl ?_
        refine sy_order [1, 2, 3, 0, 4, 5, 6, 7, 8, 9] rfl rfl ?_
        simp only [List.set_cons_zero, List.set_cons_succ, List.filterMap_cons, List.filterMap_nil, List.getElem?_cons_zero, List.getElem?_cons_succ]
        refine sy_callE (rrE rb cb p q l c1 m) rfl rfl rfl hval ?_
        intro u es' hV
        simp only [VP, hr] at hV
        obtain ⟨cs, c', m', rfl, hc6, hone, rfl, hB, hm0', hm1'⟩ := hV
        have hP : ∀ cs, cs.length = 6 → oneAll cs = true → EP rb cb p q l i d m (valR (24 - d).toNat) true vb vx rx k a ⟨ks, pk, ck, zs, pz, cz⟩ (.tuple #[]) (rrE rb cb p q l c' m' ++ [blk vb 26 cs]) := fun cs h1 h2 =>
         ⟨rfl, by rw [hel, hr]; exact ⟨c', m', cs, rfl, h1, h2, hB, hm0', hm1'⟩⟩
        obtain ⟨c0, c1', c2, c3, c4, c5, rfl⟩ := six hc6
        simp only [rrE, curE, List.cons_append, List.nil_append]
        refine dre_ek (sd (sd (sd (sd (sk (sk (sk (sd (sd (sd sr)))))))))) ?_
        repeat (refine dre_end ?_)
        simp only [addE, edged]
        refine sy_order [3, 0, 1, 2, 4, 5, 6, 7, 8, 9] rfl rfl ?_
        simp only [List.set_cons_zero, List.set_cons_succ, List.filterMap_cons, List.filterMap_nil, List.getElem?_cons_zero, List.getElem?_cons_succ]
        skip
        have h1a : oneAll [.int .i64 0, .int .i64 0, .int .i64 0, S [], .slice none 0 0, .slice none 0 0] = true := rfl
        refine sy_append 8 0 rfl rfl rfl rfl rfl rfl rfl rfl h1a rfl rfl (by omega) (by refine Nat.le_trans (Nat.mul_le_mul_left _ (Nat.le_of_ble_eq_true (m := 1024) rfl)) ?_; omega) ?_
        intro p' q'
        refine sy_weaken (fun _ _ h => h) (sd sr) ?_
        refine sy_vecAddr 7 rfl (by omega) ?_
        rintro g ⟨rfl⟩
        repeat (first | refine sy_k rfl rfl ?_ | (refine gO ?_; first | refine sy_ov (ov_p rfl) rfl rfl ?_ | (refine gS ?_; refine sy_store 3 rfl rfl rfl rfl rfl rfl rfl rfl ?_) | refine sy_ov (ov_fieldAddr rfl rfl rfl) rfl rfl ?_ | (refine sy_ov (ov_indexAddr rfl rfl ?_ ?_) rfl rfl ?_; omega; omega)))
        refine sy_storev 7 rfl rfl rfl rfl rfl hone ?_ rfl (hup [c0, c1', c2, c3, c4, c5] rfl) ?_
        focus exact hlen [c0, c1', c2, c3, c4, c5] rfl
        repeat (refine sy_k rfl rfl ?_)
        exact end0w rfl fun w' hw' => postE hw' (rrE rb cb p q l c' m' ++ [blk vb 26 (upd (upd (vC k a ⟨ks, pk, ck, zs, pz, cz⟩) 4 [.slice (some pk') (ks.length + 1) ck']) 5 [.slice (some ⟨g, 0, none⟩) (zs.length + 1) q'])]) (sub_self (by simp only [rrE, curE, List.cons_append, List.nil_append]; exact sk (sk (sk (sk (List.nil_sublist _)))))) rfl (hP _ rfl rfl)
 · have htk : takT l ⟨i, d, 0, 0⟩ 1 = false := by unfold takT; rw [hpk]; simp [t1]
   have htake := cur_take_f cb p q l ⟨i, d, 0, 0⟩ hl hc 1 htk
   have hwr := rr_wrong rb cb p q l ⟨i, d, 0, 0⟩ m hl hc
   rw [wrong_at (c := ⟨i, d, 0, 0⟩) rfl ht] at hwr
   obtain ⟨c1, h1⟩ : ∃ c1 : CurT, (⟨i, d, (oddE t).1, t.2.1⟩ : CurT) = c1 := ⟨_, rfl⟩
   have hod := oddE_ne t
   have hc1 : CurOk l c1 := by rw [← h1]; exact hc.at hc.i0 hc.i1 rfl
   have hd1 : c1.d = d := by rw [← h1]
   have hi1 : i ≤ c1.i := by rw [← h1]; exact Int.le_refl _
   have he1 : c1.e ≠ 0 := by rw [← h1]; exact hod
   have hel := rec_el_no (d := d) (m := m) (f := fun v => ([(([] : List UInt8), (0 : Int))], v)) ht t1
   rw [h1] at hel hwr
   have hneed := cur_need cb p q l c1 hl hc1 [58]
   rw [need_bad he1 (by simp)] at hneed
   have hval := hv rb cb p q l c1 m hl hli hc1 hd1 (fun h => absurd h he1) hm0 hm
   cases hr : stR l c1 m with
   | ok v l' m' => unfold stR at hr; rw [if_pos he1] at hr; cases hr
   | bad e a' =>
    refine sy_enterE rfl rfl (fun w => ?_)
    simp only [initFr, rrE, accE, curE, List.cons_append, List.nil_append]
    refine sy_order [0, 1, 2, 5, 4, 3, 6, 7, 8] rfl rfl ?_
    simp only [List.set_cons_zero, List.set_cons_succ, List.filterMap_cons, List.filterMap_nil, List.getElem?_cons_zero, List.getElem?_cons_succ]
    repeat (first | refine sy_k rfl rfl ?_ | (refine gO ?_; first | refine sy_ov (ov_p rfl) rfl rfl ?_ | (refine gL ?_; first | refine sy_ov (ov_ld 2 rfl rfl rfl) rfl rfl ?_ | refine sy_ov (ov_ld 3 rfl rfl rfl) rfl rfl ?_) | refine sy_ov (ov_fieldAddr rfl rfl rfl) rfl rfl ?_))
    refine sy_order [0, 1, 2, 3, 4, 5, 6, 7, 8] rfl rfl ?_
    simp only [List.set_cons_zero, List.set_cons_succ, List.filterMap_cons, List.filterMap_nil, List.getElem?_cons_zero, List.getElem?_cons_succ]
    refine sy_callE (curE cb p q l _) rfl rfl rfl (htake) ?_
    rintro _ _ ⟨rfl, rfl⟩
    simp only [curE, List.cons_append, List.nil_append]
    repeat (first | refine sy_k rfl rfl ?_ | (refine gO ?_; first | refine sy_ov (ov_p rfl) rfl rfl ?_ | (refine gL ?_; refine sy_ov (ov_ld 4 rfl rfl rfl) rfl rfl ?_) | (refine gS ?_; refine sy_store 0 rfl rfl rfl rfl rfl rfl rfl rfl ?_) | (refine sy_alloc rfl rfl rfl ?_; intro _)) | (refine sy_cond_t rfl ?_ ?_; (first | with_reducible rfl | assumption | omega | (simp <;> first | omega | assumption))))
    refine sy_order [1, 2, 3, 0, 4, 5, 6, 7, 8, 9] rfl rfl ?_
    simp only [List.set_cons_zero, List.set_cons_succ, List.filterMap_cons, List.filterMap_nil, List.getElem?_cons_zero, List.getElem?_cons_succ]
    refine sy_callE (rrE rb cb p q l ⟨i, d, 0, 0⟩ m) rfl rfl rfl hwr ?_
    rintro _ _ ⟨rfl, rfl⟩
    simp only [rrE, curE, List.cons_append, List.nil_append]
    repeat (first | refine sy_k rfl rfl ?_ | (refine gO ?_; first | refine sy_ov (ov_p rfl) rfl rfl ?_ | (refine gL ?_; first | refine sy_ov (ov_ld 2 rfl rfl rfl) rfl rfl ?_ | refine sy_ov (ov_ld 4 rfl rfl rfl) rfl rfl ?_) | refine sy_ov (ov_fieldAddr rfl rfl rfl) rfl rfl ?_))
    refine sy_order [0, 1, 2, 3, 4, 5, 6, 7, 8, 9] rfl rfl ?_
    simp only [List.set_cons_zero, List.set_cons_succ, List.filterMap_cons, List.filterMap_nil, List.getElem?_cons_zero, List.getElem?_cons_succ]
    refine sy_callE (curE cb p q l _) rfl rfl rfl (hneed) ?_
    rintro _ _ ⟨rfl, rfl⟩
    simp only [curE, List.cons_append, List.nil_append]
    repeat (refine sy_k rfl rfl ?_)
    refine sy_order [3, 0, 1, 2, 6, 5, 4, 7, 8, 9] rfl rfl ?_
    simp only [List.set_cons_zero, List.set_cons_succ, List.filterMap_cons, List.filterMap_nil, List.getElem?_cons_zero, List.getElem?_cons_succ]
    refine sy_drawE _ 12 [(0, false), (1, false), (2, false), (3, false), (4, false), (5, false), (6, false), (7, false), (8, false), (9, false), (10, true), (11, true)] (by kernel_rfl) rfl (sk (sd (sd (sd (sk (sk (sd (sd (sd (sd sr)))))))))) ?_
    repeat (first | refine dre_rd (fun _ _ => ov_p rfl) rfl ?_ | refine dre_rd (fun _ _ => ov_ld 0 rfl rfl rfl) rfl ?_ | refine dre_rd (fun _ _ => ov_ld 1 rfl rfl rfl) rfl ?_ | refine dre_rd (fun _ _ => ov_ld 2 rfl rfl rfl) rfl ?_ | refine dre_rd (fun _ _ => ov_fieldAddr rfl rfl rfl) rfl ?_ | refine dre_rd (fun _ _ => ov_build rfl rfl rfl) rfl ?_)
    refine dre_ef rfl ?_
    refine sy_buildSlice rfl rfl rfl rfl rfl rfl rfl rfl ?_
    intro nb
    refine dre_ek (sd (sk (sd (sd (sd (sk (sk (sd (sd (sd (sd sr))))))))))) ?_
    refine dre_ef rfl ?_
    refine sy_append 8 0 rfl rfl rfl rfl rfl rfl rfl rfl rfl rfl rfl (by omega) (by refine Nat.le_trans (Nat.mul_le_mul_left _ (Nat.le_of_ble_eq_true (m := 1024) rfl)) ?_; omega) ?_
    intro pk' ck'
    refine dre_ek (sd (sk (sd (sd (sd (sk (sk (sd (sd (sd (sd sr))))))))))) ?_
    repeat (refine dre_end ?_)
    refine sy_weaken (fun _ _ h => h) (sd (sd sr)) ?_
    repeat (first | refine sy_k rfl rfl ?_ | (refine gO ?_; first | refine sy_ov (ov_p rfl) rfl rfl ?_ | (refine gS ?_; refine sy_store 3 rfl rfl rfl rfl rfl rfl rfl rfl ?_) | refine sy_ov (ov_fieldAddr rfl rfl rfl) rfl rfl ?_))
    refine sy_two 1 2 (by kernel_rfl) ?_ ?_
    · refine any_drawE _ 3 [(0, true), (1, true), (2, true)] (by kernel_rfl) rfl sr ?_
      refine dre_ef rfl ?_
      refine sy_alloc rfl rfl rfl ?_
      intro nb
      refine dre_ek (sd sr) ?_
      repeat (first | (refine dre_ef rfl ?_; refine sy_store 0 rfl rfl rfl rfl rfl rfl rfl rfl ?_; refine dre_ek (by repeat first | exact sr | apply sk | apply sd) ?_) | refine dre_end ?_)
      simp only [addE, edged]
      repeat (first | refine sy_k rfl rfl ?_ | (refine gO ?_; (refine gL ?_; refine sy_ov (ov_ld 0 rfl rfl rfl) rfl rfl ?_)) | (refine sy_cond_f rfl ?_ ?_; (first | with_reducible rfl | assumption | omega | (simp <;> first | omega | assumption))))
      refine sy_weaken (fun _ _ h => h) (sd sr) ?_
      refine sy_drawE _ 9 [(0, false), (1, false), (2, false), (3, false), (4, false), (5, false), (6, true), (7, true), (8, true)] (by kernel_rfl) rfl (sd (sd (sd (sk (sk (sk (sd (sd (sd sr))))))))) ?_
      repeat (first | refine dre_rd (fun _ _ => ov_p rfl) rfl ?_ | refine dre_rd (fun _ _ => ov_ld 0 rfl rfl rfl) rfl ?_ | refine dre_rd (fun _ _ => ov_ld 1 rfl rfl rfl) rfl ?_ | refine dre_rd (fun _ _ => ov_ld 2 rfl rfl rfl) rfl ?_ | refine dre_rd (fun _ _ => ov_fieldAddr rfl rfl rfl) rfl ?_)
      refine dre_ef rfl ?_
      refine sy_callE (rrE rb cb p q l c1 m) rfl rfl rfl hval ?_
      intro u es' hV
      simp only [VP, hr] at hV
      obtain ⟨cs, c', m', rfl, hc6, hone, rfl, hB, hm0', hm1'⟩ := hV
      have hP : ∀ cs, cs.length = 6 → oneAll cs = true → EP rb cb p q l i d m (valR (24 - d).toNat) true vb vx rx k a ⟨ks, pk, ck, zs, pz, cz⟩ (.tuple #[]) (rrE rb cb p q l c' m' ++ [blk vb 26 cs]) := fun cs h1 h2 =>
       ⟨rfl, by rw [hel, hr]; exact ⟨c', m', cs, rfl, h1, h2, hB, hm0', hm1'⟩⟩
      obtain ⟨c0, c1', c2, c3, c4, c5, rfl⟩ := six hc6
      simp only [rrE, curE, List.cons_append, List.nil_append]
      refine dre_ek (sd (sd (sd (sk (sk (sk (sd (sd (sd sr))))))))) ?_
      skip
      refine dre_ef rfl ?_
      refine sy_buildSlice rfl rfl rfl rfl rfl rfl rfl rfl ?_
      intro nb
      refine dre_ek (sd (sd (sd (sd (sk (sk (sk (sd (sd (sd sr)))))))))) ?_
      refine dre_ef rfl ?_
      have h1a := hone
      refine sy_append 8 0 rfl rfl rfl rfl rfl rfl rfl rfl h1a rfl rfl (by omega) (by refine Nat.le_trans (Nat.mul_le_mul_left _ (Nat.le_of_ble_eq_true (m := 1024) rfl)) ?_; omega) ?_
      intro p' q'
      refine dre_ek (sd (sd (sd (sd (sk (sk (sk (sd (sd (sd sr)))))))))) ?_
      repeat (refine dre_end ?_)
      refine sy_weaken (fun _ _ h => h) (sd sr) ?_
      repeat (first | refine sy_k rfl rfl ?_ | (refine gO ?_; first | refine sy_ov (ov_p rfl) rfl rfl ?_ | (refine gS ?_; refine sy_store 3 rfl rfl rfl rfl rfl rfl rfl rfl ?_) | refine sy_ov (ov_fieldAddr rfl rfl rfl) rfl rfl ?_))
      exact end0w rfl fun w' hw' => postE hw' (rrE rb cb p q l c' m' ++ [blk vb 26 (upd (upd (vC k a ⟨ks, pk, ck, zs, pz, cz⟩) 4 [.slice (some pk') (ks.length + 1) ck']) 5 [.slice (some p') (zs.length + 1) q'])]) (sub_self (by simp only [rrE, curE, List.cons_append, List.nil_append]; exact sk (sk (sk (sk (List.nil_sublist _)))))) rfl (hP _ rfl rfl)
    · refine any_drawE _ 3 [(0, true), (2, true), (1, true)] (by kernel_rfl) rfl sr ?_
      refine dre_ef rfl ?_
      refine sy_alloc rfl rfl rfl ?_
      intro nb
      refine dre_ek (sd sr) ?_
      repeat (first | (refine dre_ef rfl ?_; refine sy_store 0 rfl rfl rfl rfl rfl rfl rfl rfl ?_; refine dre_ek (by repeat first | exact sr | apply sk | apply sd) ?_) | refine dre_end ?_)
      simp only [addE, edged]
      repeat (first | refine sy_k rfl rfl ?_ | (refine gO ?_; (refine gL ?_; refine sy_ov (ov_ld 0 rfl rfl rfl) rfl rfl ?_)) | (refine sy_cond_t rfl ?_ ?_; (first | with_reducible rfl | assumption | omega | (simp <;> first | omega | assumption))))
      refine sy_weaken (fun _ _ h => h) (sd sr) ?_
      refine sy_two 5 7 (by kernel_rfl) ?_ ?_
      · refine any_drawE _ 8 [(0, false), (1, false), (2, false), (3, false), (4, false), (6, false), (5, true), (7, true)] (by kernel_rfl) rfl (sd (sd (sd (sk (sk (sk (sd (sd (sd sr))))))))) ?_
        repeat (first | refine dre_rd (fun _ _ => ov_p rfl) rfl ?_ | refine dre_rd (fun _ _ => ov_lens rfl) rfl ?_ | refine dre_rd (fun _ _ => ov_ld 0 rfl rfl rfl) rfl ?_ | refine dre_rd (fun _ _ => ov_ld 1 rfl rfl rfl) rfl ?_ | refine dre_rd (fun _ _ => ov_ld 2 rfl rfl rfl) rfl ?_ | refine dre_rd (fun _ _ => ov_fieldAddr rfl rfl rfl) rfl ?_)
        refine dre_ef rfl ?_
        refine sy_callE (rrE rb cb p q l c1 m) rfl rfl rfl hval ?_
        intro u es' hV
        simp only [VP, hr] at hV
        obtain ⟨cs, c', m', rfl, hc6, hone, rfl, hB, hm0', hm1'⟩ := hV
        have hP : ∀ cs, cs.length = 6 → oneAll cs = true → EP rb cb p q l i d m (valR (24 - d).toNat) true vb vx rx k a ⟨ks, pk, ck, zs, pz, cz⟩ (.tuple #[]) (rrE rb cb p q l c' m' ++ [blk vb 26 cs]) := fun cs h1 h2 =>
         ⟨rfl, by rw [hel, hr]; exact ⟨c', m', cs, rfl, h1, h2, hB, hm0', hm1'⟩⟩
        obtain ⟨c0, c1', c2, c3, c4, c5, rfl⟩ := six hc6
        simp only [rrE, curE, List.cons_append, List.nil_append]
        refine dre_ek (sd (sd (sd (sk (sk (sk (sd (sd (sd sr))))))))) ?_
        refine dre_ef rfl ?_
        refine sy_buildSlice rfl rfl rfl rfl rfl rfl rfl rfl ?_
        intro nb
        refine dre_ek (sd (sd (sd (sd (sk (sk (sk (sd (sd (sd sr)))))))))) ?_
        repeat (refine dre_end ?_)
        simp only [addE, edged]
        skip
        have h1a : oneAll [.int .i64 0, .int .i64 0, .int .i64 0, S [], .slice none 0 0, .slice none 0 0] = true := rfl
        refine sy_append 8 0 rfl rfl rfl rfl rfl rfl rfl rfl h1a rfl rfl (by omega) (by refine Nat.le_trans (Nat.mul_le_mul_left _ (Nat.le_of_ble_eq_true (m := 1024) rfl)) ?_; omega) ?_
        intro p' q'
        refine sy_weaken (fun _ _ h => h) (sd sr) ?_
        refine sy_vecAddr 7 rfl (by omega) ?_
        rintro g ⟨rfl⟩
        repeat (first | refine sy_k rfl rfl ?_ | (refine gO ?_; first | refine sy_ov (ov_p rfl) rfl rfl ?_ | (refine gS ?_; refine sy_store 3 rfl rfl rfl rfl rfl rfl rfl rfl ?_) | refine sy_ov (ov_fieldAddr rfl rfl rfl) rfl rfl ?_ | (refine sy_ov (ov_indexAddr rfl rfl ?_ ?_) rfl rfl ?_; omega; omega)))
        refine sy_storev 7 rfl rfl rfl rfl rfl hone ?_ rfl (hup [c0, c1', c2, c3, c4, c5] rfl) ?_
        focus exact hlen [c0, c1', c2, c3, c4, c5] rfl
        repeat (refine sy_k rfl rfl ?_)
        exact end0w rfl fun w' hw' => postE hw' (rrE rb cb p q l c' m' ++ [blk vb 26 (upd (upd (vC k a ⟨ks, pk, ck, zs, pz, cz⟩) 4 [.slice (some pk') (ks.length + 1) ck']) 5 [.slice (some ⟨g, 0, none⟩) (zs.length + 1) q'])]) (sub_self (by simp only [rrE, curE, List.cons_append, List.nil_append]; exact sk (sk (sk (sk (List.nil_sublist _)))))) rfl (hP _ rfl rfl)
      · refine any_drawE _ 8 [(0, false), (1, false), (2, false), (3, false), (4, false), (6, false), (7, true), (5, true)] (by kernel_rfl) rfl (sd (sd (sd (sk (sk (sk (sd (sd (sd sr))))))))) ?_
        repeat (first | refine dre_rd (fun _ _ => ov_p rfl) rfl ?_ | refine dre_rd (fun _ _ => ov_lens rfl) rfl ?_ | refine dre_rd (fun _ _ => ov_ld 0 rfl rfl rfl) rfl ?_ | refine dre_rd (fun _ _ => ov_ld 1 rfl rfl rfl) rfl ?_ | refine dre_rd (fun _ _ => ov_ld 2 rfl rfl rfl) rfl ?_ | refine dre_rd (fun _ _ => ov_fieldAddr rfl rfl rfl) rfl ?_)
        refine dre_ef rfl ?_
        refine sy_buildSlice rfl rfl rfl rfl rfl rfl rfl rfl ?_
        intro nb
        refine dre_ek (sd (sd (sd (sd (sk (sk (sk (sd (sd (sd sr)))))))))) ?_
        refine dre_ef rfl ?_
        refine sy_order [1, 2, 3, 0, 4, 5, 6, 7, 8, 9] rfl rfl ?_
        simp only [List.set_cons_zero, List.set_cons_succ, List.filterMap_cons, List.filterMap_nil, List.getElem?_cons_zero, List.getElem?_cons_succ]
        refine sy_callE (rrE rb cb p q l c1 m) rfl rfl rfl hval ?_
        intro u es' hV
        simp only [VP, hr] at hV
        obtain ⟨cs, c', m', rfl, hc6, hone, rfl, hB, hm0', hm1'⟩ := hV
        have hP : ∀ cs, cs.length = 6 → oneAll cs = true → EP rb cb p q l i d m (valR (24 - d).toNat) true vb vx rx k a ⟨ks, pk, ck, zs, pz, cz⟩ (.tuple #[]) (rrE rb cb p q l c' m' ++ [blk vb 26 cs]) := fun cs h1 h2 =>
         ⟨rfl, by rw [hel, hr]; exact ⟨c', m', cs, rfl, h1, h2, hB, hm0', hm1'⟩⟩
        obtain ⟨c0, c1', c2, c3, c4, c5, rfl⟩ := six hc6
        simp only [rrE, curE, List.cons_append, List.nil_append]
        refine dre_ek (sd (sd (sd (sd (sk (sk (sk (sd (sd (sd sr)))))))))) ?_
        repeat (refine dre_end ?_)
        simp only [addE, edged]
        refine sy_order [3, 0, 1, 2, 4, 5, 6, 7, 8, 9] rfl rfl ?_
        simp only [List.set_cons_zero, List.set_cons_succ, List.filterMap_cons, List.filterMap_nil, List.getElem?_cons_zero, List.getElem?_cons_succ]
        skip
        have h1a : oneAll [.int .i64 0, .int .i64 0, .int .i64 0, S [], .slice none 0 0, .slice none 0 0] = true := rfl
        refine sy_append 8 0 rfl rfl rfl rfl rfl rfl rfl rfl h1a rfl rfl (by omega) (by refine Nat.le_trans (Nat.mul_le_mul_left _ (Nat.le_of_ble_eq_true (m := 1024) rfl)) ?_; omega) ?_
        intro p' q'
        refine sy_weaken (fun _ _ h => h) (sd sr) ?_
        refine sy_vecAddr 7 rfl (by omega) ?_
        rintro g ⟨rfl⟩
        repeat (first | refine sy_k rfl rfl ?_ | (refine gO ?_; first | refine sy_ov (ov_p rfl) rfl rfl ?_ | (refine gS ?_; refine sy_store 3 rfl rfl rfl rfl rfl rfl rfl rfl ?_) | refine sy_ov (ov_fieldAddr rfl rfl rfl) rfl rfl ?_ | (refine sy_ov (ov_indexAddr rfl rfl ?_ ?_) rfl rfl ?_; omega; omega)))
        refine sy_storev 7 rfl rfl rfl rfl rfl hone ?_ rfl (hup [c0, c1', c2, c3, c4, c5] rfl) ?_
        focus exact hlen [c0, c1', c2, c3, c4, c5] rfl
        repeat (refine sy_k rfl rfl ?_)
        exact end0w rfl fun w' hw' => postE hw' (rrE rb cb p q l c' m' ++ [blk vb 26 (upd (upd (vC k a ⟨ks, pk, ck, zs, pz, cz⟩) 4 [.slice (some pk') (ks.length + 1) ck']) 5 [.slice (some ⟨g, 0, none⟩) (zs.length + 1) q'])]) (sub_self (by simp only [rrE, curE, List.cons_append, List.nil_append]; exact sk (sk (sk (sk (List.nil_sublist _)))))) rfl (hP _ rfl rfl)
end Go.Proofs.YtldjakeigjngoaaGreat