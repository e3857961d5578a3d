/- BRV: texts of this proof, joined by program: RawRows, RawList, RawWord, RawVal, RawVal2, RawVal3, RawParse. -/
import Derived.Test.YtldjakeigjngoaaGreatBRE
import Derived.Test.YtldjakeigjngoaaGreatBOB
/- Contracts: the rows of a list or a record, as the program reads them. -/
set_option linter.unusedVariables false
set_option linter.unusedSimpArgs false
namespace Go.Proofs.YtldjakeigjngoaaGreat
open Go.RowKit Bf
section
variable {val : List TokT → Int → RR RawP} {rec : Bool} {e : List UInt8} {n : Nat} {L l' : List TokT} {m m' : Int} {ks : List WordT} {vs : List RawP} {R : RR (List WordT × List RawP)} {kv : List WordT × RawP}
theorem rows_bad {x a : Int} (h : rowsR val rec e n L m ks vs = R) (hn : 1 ≤ n) (hel : elR val rec L m = .bad x a) : R = .bad x a := by
 subst h
 obtain ⟨n, rfl⟩ : ∃ k, n = k + 1 := ⟨n - 1, by omega⟩
 simp only [rowsR, hel]
theorem rows_end (h : rowsR val rec e n L m ks vs = R) (hn : 1 ≤ n) (hel : elR val rec L m = .ok kv l' m') (hb : mkB l' e = true) : R = .ok (ks ++ kv.1, vs ++ [kv.2]) l'.tail m' := by
 subst h
 obtain ⟨n, rfl⟩ : ∃ k, n = k + 1 := ⟨n - 1, by omega⟩
 simp only [rowsR, hel, hb, if_true]
theorem rows_more (h : rowsR val rec e n L m ks vs = R) (hn : 1 ≤ n) (hel : elR val rec L m = .ok kv l' m') (hb : mkB l' e = false) (hc : mkB l' [44] = true) : rowsR val rec e (n - 1) l'.tail m' (ks ++ kv.1) (vs ++ [kv.2]) = R := by
 subst h
 obtain ⟨n, rfl⟩ : ∃ k, n = k + 1 := ⟨n - 1, by omega⟩
 simp only [rowsR, hel, hb, hc, if_true]; rfl
theorem rows_odd (h : rowsR val rec e n L m ks vs = R) (hn : 1 ≤ n) (hel : elR val rec L m = .ok kv l' m') (hb : mkB l' e = false) (hc : mkB l' [44] = false) : R = oddR l' := by
 subst h
 obtain ⟨n, rfl⟩ : ∃ k, n = k + 1 := ⟨n - 1, by omega⟩
 simp only [rowsR, hel, hb, hc]; rfl
end
theorem elR_keys {val : List TokT → Int → RR RawP} {rec : Bool} {L l' : List TokT} {m m' : Int} {kv : List WordT × RawP} (h : elR val rec L m = .ok kv l' m') : kv.1.length ≤ 1 := by
 unfold elR at h
 split at h
 · split at h
   · split at h
     · obtain ⟨v, _, rfl⟩ := map_ok h; exact Nat.le_refl _
     · cases h
   · cases h
 · obtain ⟨v, _, rfl⟩ := map_ok h; exact Nat.zero_le _
theorem plRs_snoc (zs : List RawA) (z : RawA) : plRs (zs ++ [z]) = plRs zs ++ [plR z] := by rw [plRs_app]; rfl
theorem mark_at {l : List TokT} {c : CurT} {u : TokT} {t : List UInt8} (e0 : c.e = 0) (hu : l[c.i.toNat]? = some u) : isT l c 4 t = mkB (l.drop c.i.toNat) t ∧ (mkB (l.drop c.i.toNat) t = true → nextT l c = ⟨c.i + 1, c.d, c.e, c.a⟩) := by
 have hpk := peek_at e0 hu
 have hb : isT l c 4 t = mkB (l.drop c.i.toNat) t := by unfold isT mkB; rw [hpk, (hdT_at hu).1]
 refine ⟨hb, fun h => next_at e0 hu ?_⟩
 have := mk_hd h; rw [(hdT_at hu).1] at this; omega
theorem mark_bad {l : List TokT} {c : CurT} {t : List UInt8} (he : c.e ≠ 0) (ht : t ≠ []) : isT l c 4 t = false := by
 have hpk := peekT_bad l c he
 unfold isT; rw [hpk]; simp
def BP (rb cb : Nat) (p : Option Addr) (q : Nat) (l : List TokT) (i d : Int) (vb vx rx : Nat) (k a : Int) (R : RR (List WordT × List RawP)) (u : Value) (es : List En) : Prop :=
 u = .tuple #[] ∧ match R with
 | .ok kv l' m' => ∃ i' x', es = rrE rb cb p q l ⟨i', d, 0, 0⟩ m' ++ accE vb vx rx rb k a x' ∧ x'.ks = kv.1 ∧ plRs x'.zs = kv.2 ∧ l' = l.drop i'.toNat ∧ i < i' ∧ CurOk l ⟨i', d, 0, 0⟩ ∧ 0 ≤ m' ∧ m' ≤ 4096
 | .bad e' a' => ∃ c' m' cs, es = rrE rb cb p q l c' m' ++ [blk vb 26 cs] ∧ cs.length = 6 ∧ oneAll cs = true ∧ BadC l c' e' a' ∧ 0 ≤ m' ∧ m' ≤ 4096
inductive RwSt where
 | ok (i m : Int) (x : Acc)
 | bad (c : CurT) (m : Int) (cs : List Value)
def rwH (rb cb : Nat) (p : Option Addr) (q : Nat) (l : List TokT) (d : Int) (vb vx rx : Nat) (k a : Int) : RwSt → List En
 | .ok i m x => rrE rb cb p q l ⟨i, d, 0, 0⟩ m ++ accE vb vx rx rb k a x
 | .bad c m cs => rrE rb cb p q l c m ++ [blk vb 26 cs]
def rwI (l : List TokT) (i0 d : Int) (val : List TokT → Int → RR RawP) (rec : Bool) (e : List UInt8) (R : RR (List WordT × List RawP)) : RwSt → Prop
 | .ok i m x => CurOk l ⟨i, d, 0, 0⟩ ∧ i0 ≤ i ∧ 0 ≤ m ∧ m ≤ 4096 ∧ x.zs.length ≤ i.toNat ∧ x.ks.length ≤ i.toNat ∧ ∃ n, l.length - i.toNat ≤ n ∧ rowsR val rec e n (l.drop i.toNat) m x.ks (plRs x.zs) = R
 | .bad c m cs => 0 ≤ m ∧ m ≤ 4096 ∧ cs.length = 6 ∧ oneAll cs = true ∧ ∃ e' a', BadC l c e' a' ∧ R = .bad e' a'
def rwM (l : List TokT) : RwSt → Nat
 | .ok i _ _ => l.length - i.toNat
 | .bad _ _ _ => 0
set_option maxRecDepth 20000 in
set_option maxHeartbeats 8000000 in
theorem rows_c (rb cb : Nat) (p : Option Addr) (q : Nat) (l : List TokT) (i0 d m0 : Int) (vb vx rx : Nat) (k a : Int) (val : List TokT → Int → RR RawP) (rec : Bool) (e : List UInt8) (hee : e ≠ []) {f : FuncId} {fn : Func} [FN Tryz.prog f fn] (caps : List Value) (pk pz : Option Addr) (ck cz : Nat)
 (hel : ∀ i m x, CurOk l ⟨i, d, 0, 0⟩ → 0 ≤ m → m ≤ 4096 → x.zs.length ≤ i.toNat → x.ks.length ≤ i.toNat → CallsE Tryz.prog f caps (rrE rb cb p q l ⟨i, d, 0, 0⟩ m ++ accE vb vx rx rb k a x) (EP rb cb p q l i d m val rec vb vx rx k a x))
 (hl : TokOk l) (hc : CurOk l ⟨i0, d, 0, 0⟩) (hm0 : 0 ≤ m0) (hm : m0 ≤ 4096) :
 CallsE Tryz.prog 81 [ptr rb, S e, .func (.func f) #[] ⟨caps⟩] (rrE rb cb p q l ⟨i0, d, 0, 0⟩ m0 ++ accE vb vx rx rb k a ⟨[], pk, ck, [], pz, cz⟩) (BP rb cb p q l i0 d vb vx rx k a (bodyR val rec e (l.drop i0.toNat) m0)) := by
 have i1 := hc.i1
 have i0' := hc.i0
 simp only at i1 i0'
 obtain ⟨t, ht⟩ : ∃ t, l[i0.toNat]? = some t := ⟨_, List.getElem?_eq_getElem (by omega)⟩
 obtain ⟨hmk, hnx⟩ := mark_at (c := ⟨i0, d, 0, 0⟩) (t := e) rfl ht
 have hmark := cur_mark cb p q l ⟨i0, d, 0, 0⟩ hl hc e
 rw [hmk] at hmark
 simp only at hmk hnx
 by_cases hb : mkB (l.drop i0.toNat) e = true
 · rw [hb] at hmark
   have hgo : goT l ⟨i0, d, 0, 0⟩ true = ⟨i0 + 1, d, 0, 0⟩ := by unfold goT; rw [if_pos rfl]; exact hnx hb
   rw [hgo] at hmark
   have hcn : CurOk l ⟨i0 + 1, d, 0, 0⟩ := by have := hc.next hl; rw [hnx hb] at this; exact this
   have hP : BP rb cb p q l i0 d vb vx rx k a (bodyR val rec e (l.drop i0.toNat) m0) (.tuple #[]) (rrE rb cb p q l ⟨i0 + 1, d, 0, 0⟩ m0 ++ accE vb vx rx rb k a ⟨[], pk, ck, [], pz, cz⟩) := by
    refine ⟨rfl, ?_⟩
    unfold bodyR
    rw [if_pos hb]
    exact ⟨i0 + 1, _, rfl, rfl, rfl, by rw [(hdT_at ht).2, show (i0 + 1).toNat = i0.toNat + 1 by omega], by omega, hcn, hm0, hm⟩
   refine sy_enterE rfl rfl (fun w => ?_)
   simp only [initFr, rrE, accE, curE, List.cons_append, List.nil_append]
   repeat (first | refine sy_k rfl rfl ?_ | (refine gO ?_; first | refine sy_ov (ov_p rfl) rfl rfl ?_ | (refine gL ?_; refine sy_ov (ov_ld 2 rfl rfl rfl) rfl rfl ?_) | refine sy_ov (ov_fieldAddr rfl rfl rfl) rfl rfl ?_))
   refine sy_callE (curE cb p q l _) rfl rfl rfl (hmark) ?_
   rintro _ _ ⟨rfl, rfl⟩
   simp only [curE, List.cons_append, List.nil_append]
   repeat (first | refine sy_k rfl rfl ?_ | (refine sy_cond_t rfl ?_ ?_; (first | with_reducible rfl | assumption | omega | (simp <;> first | omega | assumption))) | refine sy_rt ?_)
   exact ret0w rfl fun w' hw' => postE hw' _ (sub_self (by simp only [rrE, accE, curE, List.cons_append, List.nil_append]; exact sr)) rfl hP
 · have hb : mkB (l.drop i0.toNat) e = false := by simpa using hb
   rw [hb] at hmark
   have hgo : goT l ⟨i0, d, 0, 0⟩ false = ⟨i0, d, 0, 0⟩ := rfl
   rw [hgo] at hmark
   obtain ⟨R, hR⟩ : ∃ R, bodyR val rec e (l.drop i0.toNat) m0 = R := ⟨_, rfl⟩
   have hR2 : rowsR val rec e (l.drop i0.toNat).length (l.drop i0.toNat) m0 [] [] = R := by rw [← hR]; unfold bodyR; rw [hb]; rfl
   rw [hR]
   refine sy_enterE rfl rfl (fun w => ?_)
   simp only [initFr, rrE, accE, curE, List.cons_append, List.nil_append]
   repeat (first | refine sy_k rfl rfl ?_ | (refine gO ?_; first | refine sy_ov (ov_p rfl) rfl rfl ?_ | (refine gL ?_; refine sy_ov (ov_ld 2 rfl rfl rfl) rfl rfl ?_) | refine sy_ov (ov_fieldAddr rfl rfl rfl) rfl rfl ?_))
   refine sy_callE (curE cb p q l _) rfl rfl rfl (hmark) ?_
   rintro _ _ ⟨rfl, rfl⟩
   simp only [curE, List.cons_append, List.nil_append]
   repeat (first | refine sy_k rfl rfl ?_ | (refine sy_cond_f rfl ?_ ?_; (first | with_reducible rfl | assumption | omega | (simp <;> first | omega | assumption))))
   refine sy_loop (α := RwSt) (fun _ => [(0, ptr rb), (1, S e), (2, .func (.func f) #[] ⟨caps⟩)]) (rwH rb cb p q l d vb vx rx k a) (rwI l i0 d val rec e R) (rwM l) (.ok i0 m0 ⟨[], pk, ck, [], pz, cz⟩) ⟨hc, Int.le_refl _, hm0, hm, Nat.zero_le _, Nat.zero_le _, _, by rw [List.length_drop]; exact Nat.le_refl _, hR2⟩ ⟨⟨_, rfl, rfl⟩, ⟨_, rfl, rfl⟩, ⟨_, rfl, rfl⟩, trivial⟩ (by simp only [rwH, rrE, accE, curE, List.cons_append, List.nil_append]; exact sr) ?_
   rintro (⟨i, m, x⟩ | ⟨c, m, cs⟩) hI
   · obtain ⟨hci, hi0, hma, hmb, hzl, hkl, n, hn, hrw⟩ := hI
     simp only [rwH, rrE, accE, curE, List.cons_append, List.nil_append]
     have hi1 := hci.i1
     have hia := hci.i0
     simp only at hi1 hia
     have hn1 : 1 ≤ n := by omega
     have hE := hel i m x hci hma hmb hzl hkl
     cases hr : elR val rec (l.drop i.toNat) m with
     | ok kv l' m' =>
      repeat (first | refine sy_k rfl rfl ?_ | (refine gO ?_; first | refine sy_ov (ov_p rfl) rfl rfl ?_ | (refine gL ?_; refine sy_ov (ov_ld 2 rfl rfl rfl) rfl rfl ?_) | refine sy_ov (ov_fieldAddr rfl rfl rfl) rfl rfl ?_))
      refine sy_callE (curE cb p q l _) rfl rfl rfl (cur_fault cb p q l ⟨i, d, 0, 0⟩) ?_
      rintro _ _ ⟨rfl, rfl⟩
      simp only [curE, List.cons_append, List.nil_append]
      repeat (first | refine sy_k rfl rfl ?_ | (refine gO ?_; first | refine sy_ov (ov_p rfl) rfl rfl ?_ | refine sy_ov (ov_field rfl rfl rfl) rfl rfl ?_) | (refine sy_cond_t rfl ?_ ?_; (first | with_reducible rfl | assumption | omega | (simp <;> first | omega | assumption))))
      refine sy_callET (rrE rb cb p q l ⟨i, d, 0, 0⟩ m ++ accE vb vx rx rb k a x) rfl rfl rfl rfl rfl hE ?_
      intro u es' hV
      simp only [EP, hr] at hV
      obtain ⟨rfl, z, i', x', rfl, hks, hzs, hpl, hl', hlt, hc', hm0', hm1'⟩ := hV
      have hi1' := hc'.i1
      simp only at hi1'
      obtain ⟨u2, hu2⟩ : ∃ u2, l[i'.toNat]? = some u2 := ⟨_, List.getElem?_eq_getElem (by omega)⟩
      obtain ⟨hmk2, hnx2⟩ := mark_at (c := ⟨i', d, 0, 0⟩) (t := e) rfl hu2
      have hmark2 := cur_mark cb p q l ⟨i', d, 0, 0⟩ hl hc' e
      rw [hmk2] at hmark2
      simp only at hmk2 hnx2
      have hcn : ∀ h : nextT l ⟨i', d, 0, 0⟩ = ⟨i' + 1, d, 0, 0⟩, CurOk l ⟨i' + 1, d, 0, 0⟩ := fun h => by have := hc'.next hl; rw [h] at this; exact this
      have hzl' : x'.zs.length = x.zs.length + 1 := by rw [hzs]; simp
      have hpz : plRs x'.zs = plRs x.zs ++ [kv.2] := by rw [hzs, plRs_snoc, hpl]
      have hdr : (l.drop i'.toNat).tail = l.drop (i' + 1).toNat := by rw [(hdT_at hu2).2, show (i' + 1).toNat = i'.toNat + 1 by omega]
      have hkl' : x'.ks.length ≤ i'.toNat := by
       rw [hks, List.length_append]
       have : kv.1.length ≤ 1 := elR_keys hr
       omega
      by_cases hb2 : mkB (l.drop i'.toNat) e = true
      · rw [hb2] at hmark2
        have hgo2 : goT l ⟨i', d, 0, 0⟩ true = ⟨i' + 1, d, 0, 0⟩ := by unfold goT; rw [if_pos rfl]; exact hnx2 hb2
        rw [hgo2] at hmark2
        have hRe := rows_end hrw hn1 hr (by rw [hl']; exact hb2)
        have hP : BP rb cb p q l i0 d vb vx rx k a R (.tuple #[]) (rrE rb cb p q l ⟨i' + 1, d, 0, 0⟩ m' ++ accE vb vx rx rb k a x') :=
         ⟨rfl, by rw [hRe]; exact ⟨i' + 1, x', rfl, hks, hpz, by rw [hl']; exact hdr, by omega, hcn (hnx2 hb2), hm0', hm1'⟩⟩
        simp only [rrE, accE, curE, List.cons_append, List.nil_append]
        repeat (first | refine sy_k rfl rfl ?_ | (refine gO ?_; first | refine sy_ov (ov_p rfl) rfl rfl ?_ | (refine gL ?_; refine sy_ov (ov_ld 2 rfl rfl rfl) rfl rfl ?_) | refine sy_ov (ov_fieldAddr rfl rfl rfl) rfl rfl ?_))
        refine sy_callE (curE cb p q l _) rfl rfl rfl (hmark2) ?_
        rintro _ _ ⟨rfl, rfl⟩
        simp only [curE, List.cons_append, List.nil_append]
        repeat (first | refine sy_k rfl rfl ?_ | (refine sy_cond_t rfl ?_ ?_; (first | with_reducible rfl | assumption | omega | (simp <;> first | omega | assumption))) | refine sy_rt ?_)
        exact ret0w rfl fun w' hw' => postE hw' _ (sub_self (by simp only [rrE, accE, curE, List.cons_append, List.nil_append]; exact sr)) rfl hP
      · have hb2 : mkB (l.drop i'.toNat) e = false := by simpa using hb2
        rw [hb2] at hmark2
        have hgo2 : goT l ⟨i', d, 0, 0⟩ false = ⟨i', d, 0, 0⟩ := rfl
        rw [hgo2] at hmark2
        have hnd := cur_need cb p q l ⟨i', d, 0, 0⟩ hl hc' [44]
        rcases need_at (c := ⟨i', d, 0, 0⟩) (t := [44]) rfl hu2 with ⟨hcm, hnn⟩ | ⟨hcm, hnn⟩
        · rw [hnn] at hnd
          have hrm := rows_more hrw hn1 hr (by rw [hl']; exact hb2) (by rw [hl']; exact hcm)
          rw [hl', hdr, ← hks, ← hpz] at hrm
          have hcc := hc'.need hl [44]
          rw [hnn] at hcc
          simp only at hnd hcc
          simp only [rrE, accE, curE, List.cons_append, List.nil_append]
          repeat (first | refine sy_k rfl rfl ?_ | (refine gO ?_; first | refine sy_ov (ov_p rfl) rfl rfl ?_ | (refine gL ?_; refine sy_ov (ov_ld 2 rfl rfl rfl) rfl rfl ?_) | refine sy_ov (ov_fieldAddr rfl rfl rfl) rfl rfl ?_))
          refine sy_callE (curE cb p q l _) rfl rfl rfl (hmark2) ?_
          rintro _ _ ⟨rfl, rfl⟩
          simp only [curE, List.cons_append, List.nil_append]
          repeat (first | refine sy_k rfl rfl ?_ | (refine gO ?_; first | refine sy_ov (ov_p rfl) rfl rfl ?_ | (refine gL ?_; refine sy_ov (ov_ld 2 rfl rfl rfl) rfl rfl ?_) | refine sy_ov (ov_fieldAddr rfl rfl rfl) rfl rfl ?_) | (refine sy_cond_f rfl ?_ ?_; (first | with_reducible rfl | assumption | omega | (simp <;> first | omega | assumption))))
          refine sy_callE (curE cb p q l _) rfl rfl rfl (hnd) ?_
          rintro _ _ ⟨rfl, rfl⟩
          simp only [curE, List.cons_append, List.nil_append]
          repeat (refine sy_k rfl rfl ?_)
          refine sy_back (.ok (i' + 1) m' x') ⟨hcc, by omega, hm0', hm1', by omega, by omega, n - 1, by omega, hrm⟩ (by simp only [rwM]; omega) ⟨⟨_, rfl, rfl⟩, ⟨_, rfl, rfl⟩, ⟨_, rfl, rfl⟩, trivial⟩ (by simp only [rwH, rrE, accE, curE, List.cons_append, List.nil_append]; exact sr)
        · rw [hnn] at hnd
          have hro := rows_odd hrw hn1 hr (by rw [hl']; exact hb2) (by rw [hl']; exact hcm)
          rw [hl'] at hro
          have hcc := hc'.need hl [44]
          rw [hnn] at hcc
          simp only at hnd hcc
          have hB : BadC l ⟨i', d, (oddE u2).1, u2.2.1⟩ (oddE u2).1 u2.2.1 := ⟨hcc, oddE_ne u2, rfl, rfl⟩
          have hRo : R = .bad (oddE u2).1 u2.2.1 := by rw [hro]; unfold oddR; rw [(hdT_at hu2).1]; rfl
          simp only [rrE, accE, curE, List.cons_append, List.nil_append]
          repeat (first | refine sy_k rfl rfl ?_ | (refine gO ?_; first | refine sy_ov (ov_p rfl) rfl rfl ?_ | (refine gL ?_; refine sy_ov (ov_ld 2 rfl rfl rfl) rfl rfl ?_) | refine sy_ov (ov_fieldAddr rfl rfl rfl) rfl rfl ?_))
          refine sy_callE (curE cb p q l _) rfl rfl rfl (hmark2) ?_
          rintro _ _ ⟨rfl, rfl⟩
          simp only [curE, List.cons_append, List.nil_append]
          repeat (first | refine sy_k rfl rfl ?_ | (refine gO ?_; first | refine sy_ov (ov_p rfl) rfl rfl ?_ | (refine gL ?_; refine sy_ov (ov_ld 2 rfl rfl rfl) rfl rfl ?_) | refine sy_ov (ov_fieldAddr rfl rfl rfl) rfl rfl ?_) | (refine sy_cond_f rfl ?_ ?_; (first | with_reducible rfl | assumption | omega | (simp <;> first | omega | assumption))))
          refine sy_callE (curE cb p q l _) rfl rfl rfl (hnd) ?_
          rintro _ _ ⟨rfl, rfl⟩
          simp only [curE, List.cons_append, List.nil_append]
          repeat (refine sy_k rfl rfl ?_)
          refine sy_back (.bad ⟨i', d, (oddE u2).1, u2.2.1⟩ m' (vC k a x')) ⟨hm0', hm1', rfl, rfl, _, _, hB, hRo⟩ (by simp only [rwM]; omega) ⟨⟨_, rfl, rfl⟩, ⟨_, rfl, rfl⟩, ⟨_, rfl, rfl⟩, trivial⟩ (by simp only [rwH, rrE, accE, curE, List.cons_append, List.nil_append]; exact sk (sk (sk (sk (List.nil_sublist _)))))
     | bad e' a' =>
      repeat (first | refine sy_k rfl rfl ?_ | (refine gO ?_; first | refine sy_ov (ov_p rfl) rfl rfl ?_ | (refine gL ?_; refine sy_ov (ov_ld 2 rfl rfl rfl) rfl rfl ?_) | refine sy_ov (ov_fieldAddr rfl rfl rfl) rfl rfl ?_))
      refine sy_callE (curE cb p q l _) rfl rfl rfl (cur_fault cb p q l ⟨i, d, 0, 0⟩) ?_
      rintro _ _ ⟨rfl, rfl⟩
      simp only [curE, List.cons_append, List.nil_append]
      repeat (first | refine sy_k rfl rfl ?_ | (refine gO ?_; first | refine sy_ov (ov_p rfl) rfl rfl ?_ | refine sy_ov (ov_field rfl rfl rfl) rfl rfl ?_) | (refine sy_cond_t rfl ?_ ?_; (first | with_reducible rfl | assumption | omega | (simp <;> first | omega | assumption))))
      refine sy_callET (rrE rb cb p q l ⟨i, d, 0, 0⟩ m ++ accE vb vx rx rb k a x) rfl rfl rfl rfl rfl hE ?_
      intro u es' hV
      simp only [EP, hr] at hV
      obtain ⟨rfl, c', m', cs, rfl, hc6, hone, hB, hm0', hm1'⟩ := hV
      have hne : c'.e ≠ 0 := by rw [hB.he]; exact hB.ne
      have hmk2 := cur_mark cb p q l c' hl hB.ok e
      rw [mark_bad hne hee] at hmk2
      have hnd := cur_need cb p q l c' hl hB.ok [44]
      rw [need_bad hne (by simp)] at hnd
      simp only [rrE, curE, List.cons_append, List.nil_append]
      repeat (first | refine sy_k rfl rfl ?_ | (refine gO ?_; first | refine sy_ov (ov_p rfl) rfl rfl ?_ | (refine gL ?_; refine sy_ov (ov_ld 2 rfl rfl rfl) rfl rfl ?_) | refine sy_ov (ov_fieldAddr rfl rfl rfl) rfl rfl ?_))
      refine sy_callE (curE cb p q l _) rfl rfl rfl (hmk2) ?_
      rintro _ _ ⟨rfl, rfl⟩
      simp only [curE, List.cons_append, List.nil_append]
      repeat (first | refine sy_k rfl rfl ?_ | (refine gO ?_; first | refine sy_ov (ov_p rfl) rfl rfl ?_ | (refine gL ?_; refine sy_ov (ov_ld 2 rfl rfl rfl) rfl rfl ?_) | refine sy_ov (ov_fieldAddr rfl rfl rfl) rfl rfl ?_) | (refine sy_cond_f rfl ?_ ?_; (first | with_reducible rfl | assumption | omega | (simp <;> first | omega | assumption))))
      refine sy_callE (curE cb p q l _) rfl rfl rfl (hnd) ?_
      rintro _ _ ⟨rfl, rfl⟩
      simp only [curE, List.cons_append, List.nil_append]
      repeat (refine sy_k rfl rfl ?_)
      refine sy_back (.bad c' m' cs) ⟨hm0', hm1', hc6, hone, e', a', hB, rows_bad hrw hn1 hr⟩ (by simp only [rwM]; omega) ⟨⟨_, rfl, rfl⟩, ⟨_, rfl, rfl⟩, ⟨_, rfl, rfl⟩, trivial⟩ (by simp only [rwH, rrE, accE, curE, List.cons_append, List.nil_append]; exact sr)
   · obtain ⟨hma, hmb, hc6, hone, e', a', hB, hRb⟩ := hI
     simp only [rwH, rrE, curE, List.cons_append, List.nil_append]
     have hne : c.e ≠ 0 := by rw [hB.he]; exact hB.ne
     have hP : BP rb cb p q l i0 d vb vx rx k a R (.tuple #[]) (rrE rb cb p q l c m ++ [blk vb 26 cs]) := ⟨rfl, by rw [hRb]; exact ⟨c, m, cs, rfl, hc6, hone, hB, hma, hmb⟩⟩
     repeat (first | refine sy_k rfl rfl ?_ | (refine gO ?_; first | refine sy_ov (ov_p rfl) rfl rfl ?_ | (refine gL ?_; refine sy_ov (ov_ld 2 rfl rfl rfl) rfl rfl ?_) | refine sy_ov (ov_fieldAddr rfl rfl rfl) rfl rfl ?_))
     refine sy_callE (curE cb p q l _) rfl rfl rfl (cur_fault cb p q l c) ?_
     rintro _ _ ⟨rfl, rfl⟩
     simp only [curE, List.cons_append, List.nil_append]
     repeat (first | refine sy_k rfl rfl ?_ | (refine gO ?_; first | refine sy_ov (ov_p rfl) rfl rfl ?_ | refine sy_ov (ov_field rfl rfl rfl) rfl rfl ?_) | (refine sy_cond_f rfl ?_ ?_; (first | with_reducible rfl | assumption | omega | (simp <;> first | omega | assumption))))
     exact end0w rfl fun w' hw' => postE hw' _ (sub_self (by simp only [rrE, curE, List.cons_append, List.nil_append]; exact sr)) rfl hP
end Go.Proofs.YtldjakeigjngoaaGreat
/- Contracts: a list, a record, as the program reads them. -/
namespace Go.Proofs.YtldjakeigjngoaaGreat
open Go.RowKit Bf
def contE (vb : Nat) (k a : Int) (x : Acc) : List En :=
 [blk vb 26 (vC k a x), vec 36 2 (.slice x.pk x.ks.length x.ck) x.ks.length (x.ks.flatMap wordV), vec 26 6 (.slice x.p x.zs.length x.c) x.zs.length (x.zs.flatMap rawV), rawE x.zs]
def LP (rb cb : Nat) (p : Option Addr) (q : Nat) (l : List TokT) (i d : Int) (vb : Nat) (k a : Int) (R : RR (List WordT × List RawP)) (u : Value) (es : List En) : Prop :=
 u = .tuple #[] ∧ match R with
 | .ok kv l' m' => ∃ i' x', es = rrE rb cb p q l ⟨i', d, 0, 0⟩ m' ++ contE vb k a x' ∧ x'.ks = kv.1 ∧ plRs x'.zs = kv.2 ∧ l' = l.drop i'.toNat ∧ i < i' ∧ CurOk l ⟨i', d, 0, 0⟩ ∧ 0 ≤ m' ∧ m' ≤ 4096
 | .bad e' a' => ∃ c' m' cs, es = rrE rb cb p q l c' m' ++ [blk vb 26 cs] ∧ cs.length = 6 ∧ oneAll cs = true ∧ BadC l c' e' a' ∧ 0 ≤ m' ∧ m' ≤ 4096
def v0C (a : Int) : List Value := [.int .i64 0, .int .i64 a, .int .i64 0, S [], .slice none 0 0, .slice none 0 0]
set_option maxRecDepth 20000 in
set_option maxHeartbeats 8000000 in
theorem list_c (rb cb : Nat) (p : Option Addr) (q : Nat) (l : List TokT) (i d m : Int) (vb : Nat) (a : Int) (hv : ValSpec d) (hl : TokOk l) (hli : TokI l) (hc : CurOk l ⟨i, d, 0, 0⟩) (hm0 : 0 ≤ m) (hm : m ≤ 4096) :
 CallsE Tryz.prog 39 [ptr rb, ptr vb] (rrE rb cb p q l ⟨i, d, 0, 0⟩ m ++ [blk vb 26 (v0C a)]) (LP rb cb p q l i d vb 4 a (bodyR (valR (24 - d).toNat) false [93] (l.drop i.toNat) m)) := by
 obtain ⟨R, hR⟩ : ∃ R, bodyR (valR (24 - d).toNat) false [93] (l.drop i.toNat) m = R := ⟨_, rfl⟩
 rw [hR]
 refine sy_enterE rfl rfl (fun w => ?_)
 simp only [initFr, rrE, accE, curE, List.cons_append, List.nil_append]
 refine sy_order [3, 0, 1, 2] rfl rfl ?_
 simp only [List.set_cons_zero, List.set_cons_succ, List.filterMap_cons, List.filterMap_nil, List.getElem?_cons_zero, List.getElem?_cons_succ]
 repeat (first | refine sy_k rfl rfl ?_ | (refine gO ?_; first | refine sy_ov (ov_p rfl) rfl rfl ?_ | (refine gG ?_; first | refine sy_guard_undef rfl rfl rfl rfl rfl ?_ | (refine sy_guard_yes rfl rfl rfl rfl rfl ?_ ?_; (first | with_reducible rfl | assumption | omega | (simp <;> first | omega | assumption))) | (refine sy_guard_no rfl rfl rfl rfl rfl ?_ ?_; (first | with_reducible rfl | assumption | omega | (simp <;> first | omega | assumption)))) | (refine gB ?_; first | (refine sy_ov (ov_ar rfl rfl rfl ?_ ?_) rfl rfl ?_; omega; omega) | (refine sy_ov (ov_cat rfl rfl ?_) rfl rfl ?_; focus (first | omega | (simp <;> omega))) | (refine sy_ov (ov_rem_n rfl rfl ?_ ?_) rfl rfl ?_; omega; omega) | (refine sy_ov (ov_quok rfl rfl ?_ ?_ ?_) rfl rfl ?_; omega; omega; omega) | refine sy_ov (ov_eqb rfl rfl) rfl rfl ?_ | refine sy_ov (ov_neb rfl rfl) rfl rfl ?_) | (refine gK ?_; first | refine sy_ov (ov_len rfl) rfl rfl ?_ | refine sy_ov (ov_lens rfl) rfl rfl ?_ | refine sy_ov (ov_max rfl rfl) rfl rfl ?_ | refine sy_ov (ov_min rfl rfl) rfl rfl ?_) | (refine gL ?_; first | refine sy_ov (ov_ld 0 rfl rfl rfl) rfl rfl ?_ | refine sy_ov (ov_ld 1 rfl rfl rfl) rfl rfl ?_ | refine sy_ov (ov_ld 2 rfl rfl rfl) rfl rfl ?_ | refine sy_ov (ov_ld 3 rfl rfl rfl) rfl rfl ?_ | refine sy_ov (ov_ld 4 rfl rfl rfl) rfl rfl ?_) | (refine gS ?_; first | refine sy_store 0 rfl rfl rfl rfl rfl rfl rfl rfl ?_ | refine sy_store 1 rfl rfl rfl rfl rfl rfl rfl rfl ?_ | refine sy_store 2 rfl rfl rfl rfl rfl rfl rfl rfl ?_ | refine sy_store 3 rfl rfl rfl rfl rfl rfl rfl rfl ?_ | refine sy_store 4 rfl rfl rfl rfl rfl rfl rfl rfl ?_) | (refine gI ?_; first | (refine sy_ov (ov_slice rfl rfl rfl ?_ ?_ ?_) rfl rfl ?_; (focus (first | omega | (simp <;> omega))); (focus (first | omega | (simp <;> omega))); focus (first | omega | (simp <;> omega))) | (refine sy_ov (ov_slice_lo rfl rfl ?_ ?_) rfl rfl ?_; omega; omega) | (refine sy_ov (ov_slice_hi rfl rfl ?_ ?_) rfl rfl ?_; omega; omega)) | (refine sy_ov (ov_pick_t rfl rfl ?_) rfl rfl ?_; focus (with_reducible rfl)) | (refine sy_ov (ov_pick_f rfl rfl ?_) rfl rfl ?_; focus (with_reducible rfl)) | refine sy_ov (ov_pick rfl rfl rfl) rfl rfl ?_ | refine sy_ov (ov_fieldAddr rfl rfl rfl) rfl rfl ?_ | (refine sy_ov (ov_index rfl rfl ?_ ?_) rfl rfl ?_; omega; omega) | refine sy_ov (ov_field rfl rfl rfl) rfl rfl ?_ | refine sy_ov (ov_fielda rfl rfl) rfl rfl ?_ | (refine sy_ov (ov_indexAddr rfl rfl ?_ ?_) rfl rfl ?_; omega; omega) | refine sy_ov (ov_build rfl rfl rfl) rfl rfl ?_ | (refine sy_ov (ov_convk rfl ?_ ?_) rfl rfl ?_; omega; omega) | refine sy_ov (ov_conv rfl) rfl rfl ?_ | (refine sy_box rfl rfl rfl ?_; intro _) | (refine sy_alloc rfl rfl rfl ?_; intro _)) | (refine sy_cond_t rfl ?_ ?_; (first | with_reducible rfl | assumption | omega | (simp <;> first | omega | assumption))) | (refine sy_cond_f rfl ?_ ?_; (first | with_reducible rfl | assumption | omega | (simp <;> first | omega | assumption))) | refine sy_rt ?_)
 refine sy_ov (ov_makeFunc rfl rfl) rfl rfl ?_
 rename_i rx vx
 refine sy_grow 36 2 ?_
 refine sy_grow 26 6 ?_
 refine sy_rawNil ?_
 refine sy_order [6, 7, 8, 5, 3, 4, 2, 1, 0] rfl rfl ?_
 simp only [List.set_cons_zero, List.set_cons_succ, List.filterMap_cons, List.filterMap_nil, List.getElem?_cons_zero, List.getElem?_cons_succ]
 have hrows := rows_c rb cb p q l i d m vb vx rx 4 a (valR (24 - d).toNat) false [93] (by simp) [ptr vx, ptr rx] none none 0 0 (fun i m x hc h1 h2 h3 h4 => list1_c rb cb p q l i d m vb vx rx 4 a x hv hl hli hc h1 h2 h3) hl hc hm0 hm
 rw [hR] at hrows
 refine sy_callE (rrE rb cb p q l ⟨i, d, 0, 0⟩ m ++ accE vb vx rx rb 4 a ⟨[], none, 0, [], none, 0⟩) rfl rfl rfl hrows ?_
 intro u es' hV
 cases R with
 | ok kv l' m' =>
  simp only [BP] at hV
  obtain ⟨rfl, i', x', rfl, hks, hzs, hl', hlt, hc', hm0', hm1'⟩ := hV
  have hP : LP rb cb p q l i d vb 4 a (.ok kv l' m') (.tuple #[]) (rrE rb cb p q l ⟨i', d, 0, 0⟩ m' ++ contE vb 4 a x') := ⟨rfl, i', x', rfl, hks, hzs, hl', hlt, hc', hm0', hm1'⟩
  simp only [rrE, accE, curE, List.cons_append, List.nil_append]
  repeat (first | refine sy_k rfl rfl ?_ | (refine gO ?_; first | refine sy_ov (ov_p rfl) rfl rfl ?_ | (refine gG ?_; first | refine sy_guard_undef rfl rfl rfl rfl rfl ?_ | (refine sy_guard_yes rfl rfl rfl rfl rfl ?_ ?_; (first | with_reducible rfl | assumption | omega | (simp <;> first | omega | assumption))) | (refine sy_guard_no rfl rfl rfl rfl rfl ?_ ?_; (first | with_reducible rfl | assumption | omega | (simp <;> first | omega | assumption)))) | (refine gB ?_; first | (refine sy_ov (ov_ar rfl rfl rfl ?_ ?_) rfl rfl ?_; omega; omega) | (refine sy_ov (ov_cat rfl rfl ?_) rfl rfl ?_; focus (first | omega | (simp <;> omega))) | (refine sy_ov (ov_rem_n rfl rfl ?_ ?_) rfl rfl ?_; omega; omega) | (refine sy_ov (ov_quok rfl rfl ?_ ?_ ?_) rfl rfl ?_; omega; omega; omega) | refine sy_ov (ov_eqb rfl rfl) rfl rfl ?_ | refine sy_ov (ov_neb rfl rfl) rfl rfl ?_) | (refine gK ?_; first | refine sy_ov (ov_len rfl) rfl rfl ?_ | refine sy_ov (ov_lens rfl) rfl rfl ?_ | refine sy_ov (ov_max rfl rfl) rfl rfl ?_ | refine sy_ov (ov_min rfl rfl) rfl rfl ?_) | (refine gL ?_; first | refine sy_ov (ov_ld 0 rfl rfl rfl) rfl rfl ?_ | refine sy_ov (ov_ld 1 rfl rfl rfl) rfl rfl ?_ | refine sy_ov (ov_ld 2 rfl rfl rfl) rfl rfl ?_ | refine sy_ov (ov_ld 3 rfl rfl rfl) rfl rfl ?_ | refine sy_ov (ov_ld 4 rfl rfl rfl) rfl rfl ?_) | (refine gS ?_; first | refine sy_store 0 rfl rfl rfl rfl rfl rfl rfl rfl ?_ | refine sy_store 1 rfl rfl rfl rfl rfl rfl rfl rfl ?_ | refine sy_store 2 rfl rfl rfl rfl rfl rfl rfl rfl ?_ | refine sy_store 3 rfl rfl rfl rfl rfl rfl rfl rfl ?_ | refine sy_store 4 rfl rfl rfl rfl rfl rfl rfl rfl ?_) | (refine gI ?_; first | (refine sy_ov (ov_slice rfl rfl rfl ?_ ?_ ?_) rfl rfl ?_; (focus (first | omega | (simp <;> omega))); (focus (first | omega | (simp <;> omega))); focus (first | omega | (simp <;> omega))) | (refine sy_ov (ov_slice_lo rfl rfl ?_ ?_) rfl rfl ?_; omega; omega) | (refine sy_ov (ov_slice_hi rfl rfl ?_ ?_) rfl rfl ?_; omega; omega)) | (refine sy_ov (ov_pick_t rfl rfl ?_) rfl rfl ?_; focus (with_reducible rfl)) | (refine sy_ov (ov_pick_f rfl rfl ?_) rfl rfl ?_; focus (with_reducible rfl)) | refine sy_ov (ov_pick rfl rfl rfl) rfl rfl ?_ | refine sy_ov (ov_fieldAddr rfl rfl rfl) rfl rfl ?_ | (refine sy_ov (ov_index rfl rfl ?_ ?_) rfl rfl ?_; omega; omega) | refine sy_ov (ov_field rfl rfl rfl) rfl rfl ?_ | refine sy_ov (ov_fielda rfl rfl) rfl rfl ?_ | (refine sy_ov (ov_indexAddr rfl rfl ?_ ?_) rfl rfl ?_; omega; omega) | refine sy_ov (ov_build rfl rfl rfl) rfl rfl ?_ | (refine sy_ov (ov_convk rfl ?_ ?_) rfl rfl ?_; omega; omega) | refine sy_ov (ov_conv rfl) rfl rfl ?_ | (refine sy_box rfl rfl rfl ?_; intro _) | (refine sy_alloc rfl rfl rfl ?_; intro _)) | (refine sy_cond_t rfl ?_ ?_; (first | with_reducible rfl | assumption | omega | (simp <;> first | omega | assumption))) | (refine sy_cond_f rfl ?_ ?_; (first | with_reducible rfl | assumption | omega | (simp <;> first | omega | assumption))) | refine sy_rt ?_)
  exact end0w rfl fun w' hw' => postE hw' _ (sub_self (by simp only [rrE, contE, curE, List.cons_append, List.nil_append]; exact sk (sk (sk (sk (sd (sd sr))))))) rfl hP
 | bad e' a' =>
  simp only [BP] at hV
  obtain ⟨rfl, c', m', cs, rfl, hc6, hone, hB, hm0', hm1'⟩ := hV
  have hP : LP rb cb p q l i d vb 4 a (.bad e' a') (.tuple #[]) (rrE rb cb p q l c' m' ++ [blk vb 26 cs]) := ⟨rfl, c', m', cs, rfl, hc6, hone, hB, hm0', hm1'⟩
  simp only [rrE, curE, List.cons_append, List.nil_append]
  repeat (first | refine sy_k rfl rfl ?_ | (refine gO ?_; first | refine sy_ov (ov_p rfl) rfl rfl ?_ | (refine gG ?_; first | refine sy_guard_undef rfl rfl rfl rfl rfl ?_ | (refine sy_guard_yes rfl rfl rfl rfl rfl ?_ ?_; (first | with_reducible rfl | assumption | omega | (simp <;> first | omega | assumption))) | (refine sy_guard_no rfl rfl rfl rfl rfl ?_ ?_; (first | with_reducible rfl | assumption | omega | (simp <;> first | omega | assumption)))) | (refine gB ?_; first | (refine sy_ov (ov_ar rfl rfl rfl ?_ ?_) rfl rfl ?_; omega; omega) | (refine sy_ov (ov_cat rfl rfl ?_) rfl rfl ?_; focus (first | omega | (simp <;> omega))) | (refine sy_ov (ov_rem_n rfl rfl ?_ ?_) rfl rfl ?_; omega; omega) | (refine sy_ov (ov_quok rfl rfl ?_ ?_ ?_) rfl rfl ?_; omega; omega; omega) | refine sy_ov (ov_eqb rfl rfl) rfl rfl ?_ | refine sy_ov (ov_neb rfl rfl) rfl rfl ?_) | (refine gK ?_; first | refine sy_ov (ov_len rfl) rfl rfl ?_ | refine sy_ov (ov_lens rfl) rfl rfl ?_ | refine sy_ov (ov_max rfl rfl) rfl rfl ?_ | refine sy_ov (ov_min rfl rfl) rfl rfl ?_) | (refine gL ?_; first | refine sy_ov (ov_ld 0 rfl rfl rfl) rfl rfl ?_ | refine sy_ov (ov_ld 1 rfl rfl rfl) rfl rfl ?_ | refine sy_ov (ov_ld 2 rfl rfl rfl) rfl rfl ?_ | refine sy_ov (ov_ld 3 rfl rfl rfl) rfl rfl ?_ | refine sy_ov (ov_ld 4 rfl rfl rfl) rfl rfl ?_) | (refine gS ?_; first | refine sy_store 0 rfl rfl rfl rfl rfl rfl rfl rfl ?_ | refine sy_store 1 rfl rfl rfl rfl rfl rfl rfl rfl ?_ | refine sy_store 2 rfl rfl rfl rfl rfl rfl rfl rfl ?_ | refine sy_store 3 rfl rfl rfl rfl rfl rfl rfl rfl ?_ | refine sy_store 4 rfl rfl rfl rfl rfl rfl rfl rfl ?_) | (refine gI ?_; first | (refine sy_ov (ov_slice rfl rfl rfl ?_ ?_ ?_) rfl rfl ?_; (focus (first | omega | (simp <;> omega))); (focus (first | omega | (simp <;> omega))); focus (first | omega | (simp <;> omega))) | (refine sy_ov (ov_slice_lo rfl rfl ?_ ?_) rfl rfl ?_; omega; omega) | (refine sy_ov (ov_slice_hi rfl rfl ?_ ?_) rfl rfl ?_; omega; omega)) | (refine sy_ov (ov_pick_t rfl rfl ?_) rfl rfl ?_; focus (with_reducible rfl)) | (refine sy_ov (ov_pick_f rfl rfl ?_) rfl rfl ?_; focus (with_reducible rfl)) | refine sy_ov (ov_pick rfl rfl rfl) rfl rfl ?_ | refine sy_ov (ov_fieldAddr rfl rfl rfl) rfl rfl ?_ | (refine sy_ov (ov_index rfl rfl ?_ ?_) rfl rfl ?_; omega; omega) | refine sy_ov (ov_field rfl rfl rfl) rfl rfl ?_ | refine sy_ov (ov_fielda rfl rfl) rfl rfl ?_ | (refine sy_ov (ov_indexAddr rfl rfl ?_ ?_) rfl rfl ?_; omega; omega) | refine sy_ov (ov_build rfl rfl rfl) rfl rfl ?_ | (refine sy_ov (ov_convk rfl ?_ ?_) rfl rfl ?_; omega; omega) | refine sy_ov (ov_conv rfl) rfl rfl ?_ | (refine sy_box rfl rfl rfl ?_; intro _) | (refine sy_alloc rfl rfl rfl ?_; intro _)) | (refine sy_cond_t rfl ?_ ?_; (first | with_reducible rfl | assumption | omega | (simp <;> first | omega | assumption))) | (refine sy_cond_f rfl ?_ ?_; (first | with_reducible rfl | assumption | omega | (simp <;> first | omega | assumption))) | refine sy_rt ?_)
  exact end0w rfl fun w' hw' => postE hw' _ (sub_self (by simp only [rrE, curE, List.cons_append, List.nil_append]; exact sr)) rfl hP
set_option maxRecDepth 20000 in
set_option maxHeartbeats 8000000 in
theorem record_c (rb cb : Nat) (p : Option Addr) (q : Nat) (l : List TokT) (i d m : Int) (vb : Nat) (a : Int) (hv : ValSpec d) (hl : TokOk l) (hli : TokI l) (hc : CurOk l ⟨i, d, 0, 0⟩) (hm0 : 0 ≤ m) (hm : m ≤ 4096) :
 CallsE Tryz.prog 38 [ptr rb, ptr vb] (rrE rb cb p q l ⟨i, d, 0, 0⟩ m ++ [blk vb 26 (v0C a)]) (LP rb cb p q l i d vb 5 a (bodyR (valR (24 - d).toNat) true [125] (l.drop i.toNat) m)) := by
 obtain ⟨R, hR⟩ : ∃ R, bodyR (valR (24 - d).toNat) true [125] (l.drop i.toNat) m = R := ⟨_, rfl⟩
 rw [hR]
 refine sy_enterE rfl rfl (fun w => ?_)
 simp only [initFr, rrE, accE, curE, List.cons_append, List.nil_append]
 refine sy_order [3, 0, 1, 2] rfl rfl ?_
 simp only [List.set_cons_zero, List.set_cons_succ, List.filterMap_cons, List.filterMap_nil, List.getElem?_cons_zero, List.getElem?_cons_succ]
 repeat (first | refine sy_k rfl rfl ?_ | (refine gO ?_; first | refine sy_ov (ov_p rfl) rfl rfl ?_ | (refine gG ?_; first | refine sy_guard_undef rfl rfl rfl rfl rfl ?_ | (refine sy_guard_yes rfl rfl rfl rfl rfl ?_ ?_; (first | with_reducible rfl | assumption | omega | (simp <;> first | omega | assumption))) | (refine sy_guard_no rfl rfl rfl rfl rfl ?_ ?_; (first | with_reducible rfl | assumption | omega | (simp <;> first | omega | assumption)))) | (refine gB ?_; first | (refine sy_ov (ov_ar rfl rfl rfl ?_ ?_) rfl rfl ?_; omega; omega) | (refine sy_ov (ov_cat rfl rfl ?_) rfl rfl ?_; focus (first | omega | (simp <;> omega))) | (refine sy_ov (ov_rem_n rfl rfl ?_ ?_) rfl rfl ?_; omega; omega) | (refine sy_ov (ov_quok rfl rfl ?_ ?_ ?_) rfl rfl ?_; omega; omega; omega) | refine sy_ov (ov_eqb rfl rfl) rfl rfl ?_ | refine sy_ov (ov_neb rfl rfl) rfl rfl ?_) | (refine gK ?_; first | refine sy_ov (ov_len rfl) rfl rfl ?_ | refine sy_ov (ov_lens rfl) rfl rfl ?_ | refine sy_ov (ov_max rfl rfl) rfl rfl ?_ | refine sy_ov (ov_min rfl rfl) rfl rfl ?_) | (refine gL ?_; first | refine sy_ov (ov_ld 0 rfl rfl rfl) rfl rfl ?_ | refine sy_ov (ov_ld 1 rfl rfl rfl) rfl rfl ?_ | refine sy_ov (ov_ld 2 rfl rfl rfl) rfl rfl ?_ | refine sy_ov (ov_ld 3 rfl rfl rfl) rfl rfl ?_ | refine sy_ov (ov_ld 4 rfl rfl rfl) rfl rfl ?_) | (refine gS ?_; first | refine sy_store 0 rfl rfl rfl rfl rfl rfl rfl rfl ?_ | refine sy_store 1 rfl rfl rfl rfl rfl rfl rfl rfl ?_ | refine sy_store 2 rfl rfl rfl rfl rfl rfl rfl rfl ?_ | refine sy_store 3 rfl rfl rfl rfl rfl rfl rfl rfl ?_ | refine sy_store 4 rfl rfl rfl rfl rfl rfl rfl rfl ?_) | (refine gI ?_; first | (refine sy_ov (ov_slice rfl rfl rfl ?_ ?_ ?_) rfl rfl ?_; (focus (first | omega | (simp <;> omega))); (focus (first | omega | (simp <;> omega))); focus (first | omega | (simp <;> omega))) | (refine sy_ov (ov_slice_lo rfl rfl ?_ ?_) rfl rfl ?_; omega; omega) | (refine sy_ov (ov_slice_hi rfl rfl ?_ ?_) rfl rfl ?_; omega; omega)) | (refine sy_ov (ov_pick_t rfl rfl ?_) rfl rfl ?_; focus (with_reducible rfl)) | (refine sy_ov (ov_pick_f rfl rfl ?_) rfl rfl ?_; focus (with_reducible rfl)) | refine sy_ov (ov_pick rfl rfl rfl) rfl rfl ?_ | refine sy_ov (ov_fieldAddr rfl rfl rfl) rfl rfl ?_ | (refine sy_ov (ov_index rfl rfl ?_ ?_) rfl rfl ?_; omega; omega) | refine sy_ov (ov_field rfl rfl rfl) rfl rfl ?_ | refine sy_ov (ov_fielda rfl rfl) rfl rfl ?_ | (refine sy_ov (ov_indexAddr rfl rfl ?_ ?_) rfl rfl ?_; omega; omega) | refine sy_ov (ov_build rfl rfl rfl) rfl rfl ?_ | (refine sy_ov (ov_convk rfl ?_ ?_) rfl rfl ?_; omega; omega) | refine sy_ov (ov_conv rfl) rfl rfl ?_ | (refine sy_box rfl rfl rfl ?_; intro _) | (refine sy_alloc rfl rfl rfl ?_; intro _)) | (refine sy_cond_t rfl ?_ ?_; (first | with_reducible rfl | assumption | omega | (simp <;> first | omega | assumption))) | (refine sy_cond_f rfl ?_ ?_; (first | with_reducible rfl | assumption | omega | (simp <;> first | omega | assumption))) | refine sy_rt ?_)
 refine sy_ov (ov_makeFunc rfl rfl) rfl rfl ?_
 rename_i rx vx
 refine sy_grow 36 2 ?_
 refine sy_grow 26 6 ?_
 refine sy_rawNil ?_
 refine sy_order [6, 7, 8, 5, 3, 4, 2, 1, 0] rfl rfl ?_
 simp only [List.set_cons_zero, List.set_cons_succ, List.filterMap_cons, List.filterMap_nil, List.getElem?_cons_zero, List.getElem?_cons_succ]
 have hrows := rows_c rb cb p q l i d m vb vx rx 5 a (valR (24 - d).toNat) true [125] (by simp) [ptr rx, ptr vx] none none 0 0 (fun i m x hc h1 h2 h3 h4 => rec1_c rb cb p q l i d m vb vx rx 5 a x hv hl hli hc h1 h2 h3 h4) hl hc hm0 hm
 rw [hR] at hrows
 refine sy_callE (rrE rb cb p q l ⟨i, d, 0, 0⟩ m ++ accE vb vx rx rb 5 a ⟨[], none, 0, [], none, 0⟩) rfl rfl rfl hrows ?_
 intro u es' hV
 cases R with
 | ok kv l' m' =>
  simp only [BP] at hV
  obtain ⟨rfl, i', x', rfl, hks, hzs, hl', hlt, hc', hm0', hm1'⟩ := hV
  have hP : LP rb cb p q l i d vb 5 a (.ok kv l' m') (.tuple #[]) (rrE rb cb p q l ⟨i', d, 0, 0⟩ m' ++ contE vb 5 a x') := ⟨rfl, i', x', rfl, hks, hzs, hl', hlt, hc', hm0', hm1'⟩
  simp only [rrE, accE, curE, List.cons_append, List.nil_append]
  repeat (first | refine sy_k rfl rfl ?_ | (refine gO ?_; first | refine sy_ov (ov_p rfl) rfl rfl ?_ | (refine gG ?_; first | refine sy_guard_undef rfl rfl rfl rfl rfl ?_ | (refine sy_guard_yes rfl rfl rfl rfl rfl ?_ ?_; (first | with_reducible rfl | assumption | omega | (simp <;> first | omega | assumption))) | (refine sy_guard_no rfl rfl rfl rfl rfl ?_ ?_; (first | with_reducible rfl | assumption | omega | (simp <;> first | omega | assumption)))) | (refine gB ?_; first | (refine sy_ov (ov_ar rfl rfl rfl ?_ ?_) rfl rfl ?_; omega; omega) | (refine sy_ov (ov_cat rfl rfl ?_) rfl rfl ?_; focus (first | omega | (simp <;> omega))) | (refine sy_ov (ov_rem_n rfl rfl ?_ ?_) rfl rfl ?_; omega; omega) | (refine sy_ov (ov_quok rfl rfl ?_ ?_ ?_) rfl rfl ?_; omega; omega; omega) | refine sy_ov (ov_eqb rfl rfl) rfl rfl ?_ | refine sy_ov (ov_neb rfl rfl) rfl rfl ?_) | (refine gK ?_; first | refine sy_ov (ov_len rfl) rfl rfl ?_ | refine sy_ov (ov_lens rfl) rfl rfl ?_ | refine sy_ov (ov_max rfl rfl) rfl rfl ?_ | refine sy_ov (ov_min rfl rfl) rfl rfl ?_) | (refine gL ?_; first | refine sy_ov (ov_ld 0 rfl rfl rfl) rfl rfl ?_ | refine sy_ov (ov_ld 1 rfl rfl rfl) rfl rfl ?_ | refine sy_ov (ov_ld 2 rfl rfl rfl) rfl rfl ?_ | refine sy_ov (ov_ld 3 rfl rfl rfl) rfl rfl ?_ | refine sy_ov (ov_ld 4 rfl rfl rfl) rfl rfl ?_) | (refine gS ?_; first | refine sy_store 0 rfl rfl rfl rfl rfl rfl rfl rfl ?_ | refine sy_store 1 rfl rfl rfl rfl rfl rfl rfl rfl ?_ | refine sy_store 2 rfl rfl rfl rfl rfl rfl rfl rfl ?_ | refine sy_store 3 rfl rfl rfl rfl rfl rfl rfl rfl ?_ | refine sy_store 4 rfl rfl rfl rfl rfl rfl rfl rfl ?_) | (refine gI ?_; first | (refine sy_ov (ov_slice rfl rfl rfl ?_ ?_ ?_) rfl rfl ?_; (focus (first | omega | (simp <;> omega))); (focus (first | omega | (simp <;> omega))); focus (first | omega | (simp <;> omega))) | (refine sy_ov (ov_slice_lo rfl rfl ?_ ?_) rfl rfl ?_; omega; omega) | (refine sy_ov (ov_slice_hi rfl rfl ?_ ?_) rfl rfl ?_; omega; omega)) | (refine sy_ov (ov_pick_t rfl rfl ?_) rfl rfl ?_; focus (with_reducible rfl)) | (refine sy_ov (ov_pick_f rfl rfl ?_) rfl rfl ?_; focus (with_reducible rfl)) | refine sy_ov (ov_pick rfl rfl rfl) rfl rfl ?_ | refine sy_ov (ov_fieldAddr rfl rfl rfl) rfl rfl ?_ | (refine sy_ov (ov_index rfl rfl ?_ ?_) rfl rfl ?_; omega; omega) | refine sy_ov (ov_field rfl rfl rfl) rfl rfl ?_ | refine sy_ov (ov_fielda rfl rfl) rfl rfl ?_ | (refine sy_ov (ov_indexAddr rfl rfl ?_ ?_) rfl rfl ?_; omega; omega) | refine sy_ov (ov_build rfl rfl rfl) rfl rfl ?_ | (refine sy_ov (ov_convk rfl ?_ ?_) rfl rfl ?_; omega; omega) | refine sy_ov (ov_conv rfl) rfl rfl ?_ | (refine sy_box rfl rfl rfl ?_; intro _) | (refine sy_alloc rfl rfl rfl ?_; intro _)) | (refine sy_cond_t rfl ?_ ?_; (first | with_reducible rfl | assumption | omega | (simp <;> first | omega | assumption))) | (refine sy_cond_f rfl ?_ ?_; (first | with_reducible rfl | assumption | omega | (simp <;> first | omega | assumption))) | refine sy_rt ?_)
  exact end0w rfl fun w' hw' => postE hw' _ (sub_self (by simp only [rrE, contE, curE, List.cons_append, List.nil_append]; exact sk (sk (sk (sk (sd (sd sr))))))) rfl hP
 | bad e' a' =>
  simp only [BP] at hV
  obtain ⟨rfl, c', m', cs, rfl, hc6, hone, hB, hm0', hm1'⟩ := hV
  have hP : LP rb cb p q l i d vb 5 a (.bad e' a') (.tuple #[]) (rrE rb cb p q l c' m' ++ [blk vb 26 cs]) := ⟨rfl, c', m', cs, rfl, hc6, hone, hB, hm0', hm1'⟩
  simp only [rrE, curE, List.cons_append, List.nil_append]
  repeat (first | refine sy_k rfl rfl ?_ | (refine gO ?_; first | refine sy_ov (ov_p rfl) rfl rfl ?_ | (refine gG ?_; first | refine sy_guard_undef rfl rfl rfl rfl rfl ?_ | (refine sy_guard_yes rfl rfl rfl rfl rfl ?_ ?_; (first | with_reducible rfl | assumption | omega | (simp <;> first | omega | assumption))) | (refine sy_guard_no rfl rfl rfl rfl rfl ?_ ?_; (first | with_reducible rfl | assumption | omega | (simp <;> first | omega | assumption)))) | (refine gB ?_; first | (refine sy_ov (ov_ar rfl rfl rfl ?_ ?_) rfl rfl ?_; omega; omega) | (refine sy_ov (ov_cat rfl rfl ?_) rfl rfl ?_; focus (first | omega | (simp <;> omega))) | (refine sy_ov (ov_rem_n rfl rfl ?_ ?_) rfl rfl ?_; omega; omega) | (refine sy_ov (ov_quok rfl rfl ?_ ?_ ?_) rfl rfl ?_; omega; omega; omega) | refine sy_ov (ov_eqb rfl rfl) rfl rfl ?_ | refine sy_ov (ov_neb rfl rfl) rfl rfl ?_) | (refine gK ?_; first | refine sy_ov (ov_len rfl) rfl rfl ?_ | refine sy_ov (ov_lens rfl) rfl rfl ?_ | refine sy_ov (ov_max rfl rfl) rfl rfl ?_ | refine sy_ov (ov_min rfl rfl) rfl rfl ?_) | (refine gL ?_; first | refine sy_ov (ov_ld 0 rfl rfl rfl) rfl rfl ?_ | refine sy_ov (ov_ld 1 rfl rfl rfl) rfl rfl ?_ | refine sy_ov (ov_ld 2 rfl rfl rfl) rfl rfl ?_ | refine sy_ov (ov_ld 3 rfl rfl rfl) rfl rfl ?_ | refine sy_ov (ov_ld 4 rfl rfl rfl) rfl rfl ?_) | (refine gS ?_; first | refine sy_store 0 rfl rfl rfl rfl rfl rfl rfl rfl ?_ | refine sy_store 1 rfl rfl rfl rfl rfl rfl rfl rfl ?_ | refine sy_store 2 rfl rfl rfl rfl rfl rfl rfl rfl ?_ | refine sy_store 3 rfl rfl rfl rfl rfl rfl rfl rfl ?_ | refine sy_store 4 rfl rfl rfl rfl rfl rfl rfl rfl ?_) | (refine gI ?_; first | (refine sy_ov (ov_slice rfl rfl rfl ?_ ?_ ?_) rfl rfl ?_; (focus (first | omega | (simp <;> omega))); (focus (first | omega | (simp <;> omega))); focus (first | omega | (simp <;> omega))) | (refine sy_ov (ov_slice_lo rfl rfl ?_ ?_) rfl rfl ?_; omega; omega) | (refine sy_ov (ov_slice_hi rfl rfl ?_ ?_) rfl rfl ?_; omega; omega)) | (refine sy_ov (ov_pick_t rfl rfl ?_) rfl rfl ?_; focus (with_reducible rfl)) | (refine sy_ov (ov_pick_f rfl rfl ?_) rfl rfl ?_; focus (with_reducible rfl)) | refine sy_ov (ov_pick rfl rfl rfl) rfl rfl ?_ | refine sy_ov (ov_fieldAddr rfl rfl rfl) rfl rfl ?_ | (refine sy_ov (ov_index rfl rfl ?_ ?_) rfl rfl ?_; omega; omega) | refine sy_ov (ov_field rfl rfl rfl) rfl rfl ?_ | refine sy_ov (ov_fielda rfl rfl) rfl rfl ?_ | (refine sy_ov (ov_indexAddr rfl rfl ?_ ?_) rfl rfl ?_; omega; omega) | refine sy_ov (ov_build rfl rfl rfl) rfl rfl ?_ | (refine sy_ov (ov_convk rfl ?_ ?_) rfl rfl ?_; omega; omega) | refine sy_ov (ov_conv rfl) rfl rfl ?_ | (refine sy_box rfl rfl rfl ?_; intro _) | (refine sy_alloc rfl rfl rfl ?_; intro _)) | (refine sy_cond_t rfl ?_ ?_; (first | with_reducible rfl | assumption | omega | (simp <;> first | omega | assumption))) | (refine sy_cond_f rfl ?_ ?_; (first | with_reducible rfl | assumption | omega | (simp <;> first | omega | assumption))) | refine sy_rt ?_)
  exact end0w rfl fun w' hw' => postE hw' _ (sub_self (by simp only [rrE, curE, List.cons_append, List.nil_append]; exact sr)) rfl hP
end Go.Proofs.YtldjakeigjngoaaGreat
/- Contract: what stands behind a name, as the program reads it. -/
namespace Go.Proofs.YtldjakeigjngoaaGreat
open Go.RowKit Bf
theorem sy_blkVec {P : Program} {C : Cx} {k : List It} {fr : Fr} {hp : List En} (i : Nat) {g : Nat} {e : TypeId} {size n : Nat} {cs : List Value} (hi : hp[i]? = some (blk g e cs)) (hc : cs.length = n * size) (hm : n ≤ maxLen) (h : Sy P C k fr (hp.set i (vec e size (.slice (some ⟨g, 0, none⟩) n n) n cs))) : Sy P C k fr hp :=
 .mk fun a w ha hw => h.go a w ha (by
  have hi' : hp[i]? = some (blk g e (cs ++ [])) := by rw [List.append_nil]; exact hi
  exact hw.blkVec hi' (Nat.le_refl n) hm (by rw [List.append_nil]; exact hc) hc)
def wordR (val : List TokT → Int → RR RawP) (a : Int) (tx : List UInt8) (L : List TokT) (m : Int) : RR RawP :=
 if mkB L [40] = true then (mustR [41] (val L.tail m)).map fun v => .mk 6 a 0 tx [] [v] else .ok (.mk 1 a 0 tx [] []) L m
def vS (k a : Int) (tx : List UInt8) (zs : List RawA) (pz : Option Addr) (cz : Nat) : List Value := [.int .i64 k, .int .i64 a, .int .i64 0, S tx, .slice none 0 0, .slice pz zs.length cz]
def wE (vb : Nat) (k a : Int) (tx : List UInt8) (zs : List RawA) (pz : Option Addr) (cz : Nat) : List En :=
 [blk vb 26 (vS k a tx zs pz cz), vec 26 6 (.slice pz zs.length cz) zs.length (zs.flatMap rawV), rawE zs]
def WP (rb cb : Nat) (p : Option Addr) (q : Nat) (l : List TokT) (i d : Int) (vb : Nat) (a : Int) (tx : List UInt8) (R : RR RawP) (u : Value) (es : List En) : Prop :=
 u = .tuple #[] ∧ match R with
 | .ok v l' m' => ∃ i' k zs pz cz, es = rrE rb cb p q l ⟨i', d, 0, 0⟩ m' ++ wE vb k a tx zs pz cz ∧ RawP.mk k a 0 tx [] (plRs zs) = v ∧ l' = l.drop i'.toNat ∧ i ≤ i' ∧ CurOk l ⟨i', d, 0, 0⟩ ∧ 0 ≤ m' ∧ m' ≤ 4096
 | .bad e' a' => ∃ c' m' cs, es = rrE rb cb p q l c' m' ++ [blk vb 26 cs] ∧ cs.length = 6 ∧ oneAll cs = true ∧ BadC l c' e' a' ∧ 0 ≤ m' ∧ m' ≤ 4096
set_option maxRecDepth 20000 in
set_option maxHeartbeats 8000000 in
theorem word_c (rb cb : Nat) (p : Option Addr) (q : Nat) (l : List TokT) (i d m : Int) (vb : Nat) (a : Int) (tx : List UInt8) (hv : ValSpec d) (hl : TokOk l) (hli : TokI l) (hc : CurOk l ⟨i, d, 0, 0⟩) (hm0 : 0 ≤ m) (hm : m ≤ 4096) :
 CallsE Tryz.prog 41 [ptr rb, ptr vb] (rrE rb cb p q l ⟨i, d, 0, 0⟩ m ++ [blk vb 26 (vS 0 a tx [] none 0)]) (WP rb cb p q l i d vb a tx (wordR (valR (24 - d).toNat) a tx (l.drop i.toNat) m)) := by
 have i1 := hc.i1
 have i0 := hc.i0
 simp only at i1 i0
 obtain ⟨t, ht⟩ : ∃ t, l[i.toNat]? = some t := ⟨_, List.getElem?_eq_getElem (by omega)⟩
 obtain ⟨hmk, hnx⟩ := mark_at (c := ⟨i, d, 0, 0⟩) (t := [40]) rfl ht
 have hmark := cur_mark cb p q l ⟨i, d, 0, 0⟩ hl hc [40]
 rw [hmk] at hmark
 simp only at hmk hnx
 by_cases hb : mkB (l.drop i.toNat) [40] = true
 · have hn1 := hnx hb
   have hc1 : CurOk l ⟨i + 1, d, 0, 0⟩ := by have := hc.next hl; rw [hn1] at this; exact this
   have hgo : goT l ⟨i, d, 0, 0⟩ true = ⟨i + 1, d, 0, 0⟩ := by unfold goT; rw [if_pos rfl]; exact hn1
   rw [hb, hgo] at hmark
   have hval := hv rb cb p q l ⟨i + 1, d, 0, 0⟩ m hl hli hc1 rfl (fun _ => rfl) hm0 hm
   have hst : stR l ⟨i + 1, d, 0, 0⟩ m = valR (24 - d).toNat (l.drop (i + 1).toNat) m := if_neg (fun h => h rfl)
   have htl : (l.drop i.toNat).tail = l.drop (i + 1).toNat := by rw [(hdT_at ht).2, show (i + 1).toNat = i.toNat + 1 by omega]
   have hW : wordR (valR (24 - d).toNat) a tx (l.drop i.toNat) m = (mustR [41] (stR l ⟨i + 1, d, 0, 0⟩ m)).map fun v => .mk 6 a 0 tx [] [v] := by
    unfold wordR; rw [if_pos hb, htl, hst]
   rw [hW]
   cases hr : stR l ⟨i + 1, d, 0, 0⟩ m with
   | ok v l' m' =>
    refine sy_enterE rfl rfl (fun w => ?_)
    simp only [initFr, rrE, curE, List.cons_append, List.nil_append]
    repeat (first | refine sy_k rfl rfl ?_ | (refine gO ?_; first | refine sy_ov (ov_p rfl) rfl rfl ?_ | (refine gL ?_; refine sy_ov (ov_ld 2 rfl rfl rfl) rfl rfl ?_) | (refine gS ?_; refine sy_store 3 rfl rfl rfl rfl rfl rfl rfl rfl ?_) | refine sy_ov (ov_fieldAddr rfl rfl rfl) rfl rfl ?_))
    refine sy_callE (curE cb p q l _) rfl rfl rfl (hmark) ?_
    rintro _ _ ⟨rfl, rfl⟩
    simp only [curE, List.cons_append, List.nil_append]
    repeat (first | refine sy_k rfl rfl ?_ | (refine gO ?_; first | refine sy_ov (ov_p rfl) rfl rfl ?_ | (refine gS ?_; refine sy_store 3 rfl rfl rfl rfl rfl rfl rfl rfl ?_) | refine sy_ov (ov_fieldAddr rfl rfl rfl) rfl rfl ?_) | (refine sy_cond_t rfl ?_ ?_; (first | with_reducible rfl | assumption | omega | (simp <;> first | omega | assumption))))
    refine sy_callE (rrE rb cb p q l ⟨i + 1, d, 0, 0⟩ m) rfl rfl rfl hval ?_
    intro u es' hV
    simp only [VP, hr] at hV
    obtain ⟨z, i', rfl, rfl, hpl, hl', hlt, hc', hm0', hm1'⟩ := hV
    try simp only at hc' hlt
    have hi1' := hc'.i1
    simp only at hi1'
    obtain ⟨u2, hu2⟩ : ∃ u2, l[i'.toNat]? = some u2 := ⟨_, List.getElem?_eq_getElem (by omega)⟩
    have hnd := cur_need cb p q l ⟨i', d, 0, 0⟩ hl hc' [41]
    have hcc := hc'.need hl [41]
    have hdr : (l.drop i'.toNat).tail = l.drop (i' + 1).toNat := by rw [(hdT_at hu2).2, show (i' + 1).toNat = i'.toNat + 1 by omega]
    obtain ⟨zk, za, zn, zsx, zpk, zck, zkeys, zp, zc, zkids⟩ := z
    rcases need_at (c := ⟨i', d, 0, 0⟩) (t := [41]) rfl hu2 with ⟨hcm, hnn⟩ | ⟨hcm, hnn⟩
    · rw [hnn] at hnd hcc
      try simp only at hnd hcc hcm
      have hP : ∀ nb, WP rb cb p q l i d vb a tx ((mustR [41] (.ok v l' m')).map fun v => .mk 6 a 0 tx [] [v]) (.tuple #[]) (rrE rb cb p q l ⟨i' + 1, d, 0, 0⟩ m' ++ wE vb 6 a tx [.mk zk za zn zsx zpk zck zkeys zp zc zkids] (some ⟨nb, 0, none⟩) 1) := fun nb =>
       ⟨rfl, by rw [mustR_eq, if_pos (by rw [hl']; exact hcm)]; exact ⟨i' + 1, 6, _, _, _, rfl, by rw [← hpl]; rfl, by rw [hl']; exact hdr, by omega, hcc, hm0', hm1'⟩⟩
      simp only [rrE, curE, List.cons_append, List.nil_append]
      refine sy_buildSlice rfl rfl rfl rfl rfl rfl rfl rfl ?_
      intro nb
      refine sy_order [1, 2, 3, 5, 0, 4] rfl rfl ?_
      simp only [List.set_cons_zero, List.set_cons_succ, List.filterMap_cons, List.filterMap_nil, List.getElem?_cons_zero, List.getElem?_cons_succ]
      repeat (first | refine sy_k rfl rfl ?_ | (refine gO ?_; first | refine sy_ov (ov_p rfl) rfl rfl ?_ | (refine gL ?_; refine sy_ov (ov_ld 2 rfl rfl rfl) rfl rfl ?_) | (refine gS ?_; refine sy_store 3 rfl rfl rfl rfl rfl rfl rfl rfl ?_) | refine sy_ov (ov_fieldAddr rfl rfl rfl) rfl rfl ?_))
      refine sy_callE (curE cb p q l _) rfl rfl rfl (hnd) ?_
      rintro _ _ ⟨rfl, rfl⟩
      simp only [curE, List.cons_append, List.nil_append]
      repeat (refine sy_k rfl rfl ?_)
      refine sy_blkVec (n := 1) (size := 6) 4 rfl rfl (by decide) ?_
      exact end0w rfl fun w' hw' => postE hw' _ (sub_self (by simp only [rrE, wE, curE, List.cons_append, List.nil_append]; exact sr)) rfl (hP nb)
    · rw [hnn] at hnd hcc
      try simp only at hnd hcc hcm
      have hB : BadC l ⟨i', d, (oddE u2).1, u2.2.1⟩ (oddE u2).1 u2.2.1 := ⟨hcc, oddE_ne u2, rfl, rfl⟩
      have hP : ∀ cs, cs.length = 6 → oneAll cs = true → WP rb cb p q l i d vb a tx ((mustR [41] (.ok v l' m')).map fun v => .mk 6 a 0 tx [] [v]) (.tuple #[]) (rrE rb cb p q l ⟨i', d, (oddE u2).1, u2.2.1⟩ m' ++ [blk vb 26 cs]) := fun cs h1 h2 =>
       ⟨rfl, by rw [mustR_eq, if_neg (by rw [hl', hcm]; decide)]; unfold oddR; rw [hl', (hdT_at hu2).1]; exact ⟨_, m', cs, rfl, h1, h2, hB, hm0', hm1'⟩⟩
      simp only [rrE, curE, List.cons_append, List.nil_append]
      refine sy_buildSlice rfl rfl rfl rfl rfl rfl rfl rfl ?_
      intro nb
      refine sy_order [1, 2, 3, 5, 0, 4] rfl rfl ?_
      simp only [List.set_cons_zero, List.set_cons_succ, List.filterMap_cons, List.filterMap_nil, List.getElem?_cons_zero, List.getElem?_cons_succ]
      repeat (first | refine sy_k rfl rfl ?_ | (refine gO ?_; first | refine sy_ov (ov_p rfl) rfl rfl ?_ | (refine gL ?_; refine sy_ov (ov_ld 2 rfl rfl rfl) rfl rfl ?_) | (refine gS ?_; refine sy_store 3 rfl rfl rfl rfl rfl rfl rfl rfl ?_) | refine sy_ov (ov_fieldAddr rfl rfl rfl) rfl rfl ?_))
      refine sy_callE (curE cb p q l _) rfl rfl rfl (hnd) ?_
      rintro _ _ ⟨rfl, rfl⟩
      simp only [curE, List.cons_append, List.nil_append]
      repeat (refine sy_k rfl rfl ?_)
      exact end0w rfl fun w' hw' => postE hw' (rrE rb cb p q l ⟨i', d, (oddE u2).1, u2.2.1⟩ m' ++ [blk vb 26 [.int .i64 6, .int .i64 a, .int .i64 0, S tx, .slice none 0 0, .slice (some ⟨nb, 0, none⟩) 1 1]]) (sub_self (by simp only [rrE, curE, List.cons_append, List.nil_append]; exact sk (sk (sk (sk (List.nil_sublist _)))))) rfl (hP _ rfl rfl)
   | bad e a' =>
    refine sy_enterE rfl rfl (fun w => ?_)
    simp only [initFr, rrE, curE, List.cons_append, List.nil_append]
    repeat (first | refine sy_k rfl rfl ?_ | (refine gO ?_; first | refine sy_ov (ov_p rfl) rfl rfl ?_ | (refine gL ?_; refine sy_ov (ov_ld 2 rfl rfl rfl) rfl rfl ?_) | (refine gS ?_; refine sy_store 3 rfl rfl rfl rfl rfl rfl rfl rfl ?_) | refine sy_ov (ov_fieldAddr rfl rfl rfl) rfl rfl ?_))
    refine sy_callE (curE cb p q l _) rfl rfl rfl (hmark) ?_
    rintro _ _ ⟨rfl, rfl⟩
    simp only [curE, List.cons_append, List.nil_append]
    repeat (first | refine sy_k rfl rfl ?_ | (refine gO ?_; first | refine sy_ov (ov_p rfl) rfl rfl ?_ | (refine gS ?_; refine sy_store 3 rfl rfl rfl rfl rfl rfl rfl rfl ?_) | refine sy_ov (ov_fieldAddr rfl rfl rfl) rfl rfl ?_) | (refine sy_cond_t rfl ?_ ?_; (first | with_reducible rfl | assumption | omega | (simp <;> first | omega | assumption))))
    refine sy_callE (rrE rb cb p q l ⟨i + 1, d, 0, 0⟩ m) rfl rfl rfl hval ?_
    intro u es' hV
    simp only [VP, hr] at hV
    obtain ⟨cs, c', m', rfl, hc6, hone, rfl, hB, hm0', hm1'⟩ := hV
    have hne : c'.e ≠ 0 := by rw [hB.he]; exact hB.ne
    have hnd := cur_need cb p q l c' hl hB.ok [41]
    rw [need_bad hne (by simp)] at hnd
    have hP : ∀ cs, cs.length = 6 → oneAll cs = true → WP rb cb p q l i d vb a tx ((mustR [41] (.bad e a')).map fun v => .mk 6 a 0 tx [] [v]) (.tuple #[]) (rrE rb cb p q l c' m' ++ [blk vb 26 cs]) := fun cs h1 h2 =>
     ⟨rfl, c', m', cs, rfl, h1, h2, hB, hm0', hm1'⟩
    obtain ⟨c0, c1, c2, c3, c4, c5, rfl⟩ := six hc6
    simp only [rrE, curE, List.cons_append, List.nil_append]
    refine sy_buildSlice rfl rfl rfl rfl rfl rfl rfl rfl ?_
    intro nb
    refine sy_order [1, 2, 3, 4, 0] rfl rfl ?_
    simp only [List.set_cons_zero, List.set_cons_succ, List.filterMap_cons, List.filterMap_nil, List.getElem?_cons_zero, List.getElem?_cons_succ]
    repeat (first | refine sy_k rfl rfl ?_ | (refine gO ?_; first | refine sy_ov (ov_p rfl) rfl rfl ?_ | (refine gL ?_; refine sy_ov (ov_ld 2 rfl rfl rfl) rfl rfl ?_) | (refine gS ?_; refine sy_store 3 rfl rfl rfl rfl rfl rfl rfl rfl ?_) | refine sy_ov (ov_fieldAddr rfl rfl rfl) rfl rfl ?_))
    refine sy_callE (curE cb p q l _) rfl rfl rfl (hnd) ?_
    rintro _ _ ⟨rfl, rfl⟩
    simp only [curE, List.cons_append, List.nil_append]
    repeat (refine sy_k rfl rfl ?_)
    exact end0w rfl fun w' hw' => postE hw' (rrE rb cb p q l c' m' ++ [blk vb 26 [.int .i64 6, .int .i64 a, .int .i64 0, S tx, .slice none 0 0, .slice (some ⟨nb, 0, none⟩) 1 1]]) (sub_self (by simp only [rrE, curE, List.cons_append, List.nil_append]; exact sk (sk (sk (sk (List.nil_sublist _)))))) rfl (hP _ rfl rfl)
 · have hb : mkB (l.drop i.toNat) [40] = false := by simpa using hb
   have hgo : goT l ⟨i, d, 0, 0⟩ false = ⟨i, d, 0, 0⟩ := rfl
   rw [hb, hgo] at hmark
   have hP : WP rb cb p q l i d vb a tx (wordR (valR (24 - d).toNat) a tx (l.drop i.toNat) m) (.tuple #[]) (rrE rb cb p q l ⟨i, d, 0, 0⟩ m ++ wE vb 1 a tx [] none 0) :=
    ⟨rfl, by unfold wordR; rw [if_neg (by rw [hb]; decide)]; exact ⟨i, 1, [], none, 0, rfl, rfl, rfl, Int.le_refl _, hc, hm0, hm⟩⟩
   refine sy_enterE rfl rfl (fun w => ?_)
   simp only [initFr, rrE, curE, List.cons_append, List.nil_append]
   repeat (first | refine sy_k rfl rfl ?_ | (refine gO ?_; first | refine sy_ov (ov_p rfl) rfl rfl ?_ | (refine gL ?_; refine sy_ov (ov_ld 2 rfl rfl rfl) rfl rfl ?_) | (refine gS ?_; refine sy_store 3 rfl rfl rfl rfl rfl rfl rfl rfl ?_) | refine sy_ov (ov_fieldAddr rfl rfl rfl) rfl rfl ?_))
   refine sy_callE (curE cb p q l _) rfl rfl rfl (hmark) ?_
   rintro _ _ ⟨rfl, rfl⟩
   simp only [curE, List.cons_append, List.nil_append]
   repeat (first | refine sy_k rfl rfl ?_ | (refine sy_cond_f rfl ?_ ?_; (first | with_reducible rfl | assumption | omega | (simp <;> first | omega | assumption))))
   refine sy_grow 26 6 ?_
   refine sy_rawNil ?_
   refine sy_order [2, 3, 4, 5, 1, 0] rfl rfl ?_
   simp only [List.set_cons_zero, List.set_cons_succ, List.filterMap_cons, List.filterMap_nil, List.getElem?_cons_zero, List.getElem?_cons_succ]
   exact end0w rfl fun w' hw' => postE hw' _ (sub_self (by simp only [rrE, wE, curE, List.cons_append, List.nil_append]; exact sr)) rfl hP
end Go.Proofs.YtldjakeigjngoaaGreat
/- Contract: a value, as the program reads it. -/
namespace Go.Proofs.YtldjakeigjngoaaGreat
open Go.RowKit Bf
theorem leave_d (i d e a : Int) (h : 0 ≤ d) : leaveT ⟨i, d + 1, e, a⟩ = ⟨i, d, e, a⟩ := by
 unfold leaveT
 simp only
 rw [show max (d + 1 - 1) 0 = d by omega]
theorem vp_bad {rb cb : Nat} {p : Option Addr} {q : Nat} {l : List TokT} {c c' : CurT} {m m' e a : Int} (hst : stR l c m = .bad e a) (hB : BadC l c' e a) (h0 : 0 ≤ m') (h1 : m' ≤ 4096) (cs : List Value) (hc : cs.length = 6) (ho : oneAll cs = true) : VP rb cb p q l c m (.agg ⟨cs⟩) (rrE rb cb p q l c' m') := by
 unfold VP; rw [hst]; exact ⟨cs, c', m', rfl, hc, ho, rfl, hB, h0, h1⟩
theorem BadC.leave {l : List TokT} {c : CurT} {e a : Int} (h : BadC l c e a) : BadC l (leaveT c) e a := ⟨h.ok.leave, h.ne, h.he, h.ha⟩
set_option maxRecDepth 20000 in
set_option maxHeartbeats 8000000 in
theorem val_bad (rb cb : Nat) (p : Option Addr) (q : Nat) (l : List TokT) (i d e a m : Int) (hl : TokOk l) (hc : CurOk l ⟨i, d, e, a⟩) (he : e ≠ 0) (hm0 : 0 ≤ m) (hm : m ≤ 4096) :
 CallsE Tryz.prog 19 [ptr rb] (rrE rb cb p q l ⟨i, d, e, a⟩ m) (VP rb cb p q l ⟨i, d, e, a⟩ m) := by
 have hst : stR l ⟨i, d, e, a⟩ m = .bad e a := if_pos he
 have hpeek := cur_peek cb p q l ⟨i, d, e, a⟩ hl hc
 rw [peekT_bad l ⟨i, d, e, a⟩ he] at hpeek
 have hent := rr_enter rb cb p q l ⟨i, d, e, a⟩ m hl hc ⟨hm0, hm⟩
 have d0 := hc.d0
 have d1 := hc.d1
 simp only at d0 d1
 have hfl : ∀ d' e', failT l ⟨i, d', e, a⟩ e' = ⟨i, d', e, a⟩ := fun d' e' => by unfold failT failAtT; rw [if_neg (fun h => he h.1)]
 by_cases h24 : d = 24
 · have h1 : entB ⟨i, d, e, a⟩ m = false := by unfold entB; simp [h24]
   have h2 : entC l ⟨i, d, e, a⟩ m = ⟨i, d, e, a⟩ := by unfold entC; rw [if_pos h24, hfl]
   rw [h1, h2] at hent
   have hVP := vp_bad (rb := rb) (cb := cb) (p := p) (q := q) hst ⟨hc, he, rfl, rfl⟩ hm0 hm
   refine sy_enterE rfl rfl (fun w => ?_)
   simp only [initFr, rrE, curE, List.cons_append, List.nil_append]
   repeat (first | refine sy_k rfl rfl ?_ | (refine gO ?_; first | refine sy_ov (ov_p rfl) rfl rfl ?_ | (refine gL ?_; refine sy_ov (ov_ld 3 rfl rfl rfl) rfl rfl ?_) | refine sy_ov (ov_fieldAddr rfl rfl rfl) rfl rfl ?_ | (refine sy_alloc rfl rfl rfl ?_; intro _)))
   refine sy_order [1, 2, 3, 0] rfl rfl ?_
   simp only [List.set_cons_zero, List.set_cons_succ, List.filterMap_cons, List.filterMap_nil, List.getElem?_cons_zero, List.getElem?_cons_succ]
   refine sy_callE (curE cb p q l _) rfl rfl rfl (hpeek) ?_
   rintro _ _ ⟨rfl, rfl⟩
   simp only [curE, List.cons_append, List.nil_append]
   repeat (first | refine sy_k rfl rfl ?_ | (refine gO ?_; first | refine sy_ov (ov_p rfl) rfl rfl ?_ | (refine gL ?_; refine sy_ov (ov_ld 0 rfl rfl rfl) rfl rfl ?_) | (refine gS ?_; refine sy_store 0 rfl rfl rfl rfl rfl rfl rfl rfl ?_) | refine sy_ov (ov_fieldAddr rfl rfl rfl) rfl rfl ?_ | refine sy_ov (ov_build rfl rfl rfl) rfl rfl ?_ | (refine sy_alloc rfl rfl rfl ?_; intro _)))
   rename_i b2 b3 b4
   refine sy_order [2, 3, 4, 0, 1, 5] rfl rfl ?_
   simp only [List.set_cons_zero, List.set_cons_succ, List.filterMap_cons, List.filterMap_nil, List.getElem?_cons_zero, List.getElem?_cons_succ]
   refine sy_callE (rrE rb cb p q l _ m) rfl rfl rfl hent ?_
   rintro _ _ ⟨rfl, rfl⟩
   simp only [rrE, curE, List.cons_append, List.nil_append]
   refine sy_order [0, 1, 2, 3, 5, 4] rfl rfl ?_
   simp only [List.set_cons_zero, List.set_cons_succ, List.filterMap_cons, List.filterMap_nil, List.getElem?_cons_zero, List.getElem?_cons_succ]
   repeat (first | refine sy_k rfl rfl ?_ | (refine gO ?_; first | refine sy_ov (ov_p rfl) rfl rfl ?_ | (refine gL ?_; refine sy_ov (ov_ld 3 rfl rfl rfl) rfl rfl ?_) | (refine gS ?_; refine sy_store 4 rfl rfl rfl rfl rfl rfl rfl rfl ?_)) | (refine sy_cond_t rfl ?_ ?_; (first | with_reducible rfl | assumption | omega | (simp <;> first | omega | assumption))) | refine sy_rt ?_)
   exact ret1cw 4 rfl rfl rfl rfl rfl fun w' hw' => postE hw' _ (sub_self (by simp only [rrE, curE, List.cons_append, List.nil_append]; exact sk (sk (sk (List.nil_sublist _))))) rfl (hVP _ rfl rfl)
 · by_cases h4 : m = 4096
   · have h1 : entB ⟨i, d, e, a⟩ m = false := by unfold entB; simp [h4]
     have h2 : entC l ⟨i, d, e, a⟩ m = ⟨i, d + 1, e, a⟩ := by unfold entC; rw [if_neg h24, if_pos h4]; exact hfl _ _
     rw [h1, h2] at hent
     have hVP := vp_bad (rb := rb) (cb := cb) (p := p) (q := q) (c' := ⟨i, d + 1, e, a⟩) hst ⟨⟨hc.i0, hc.i1, by simp only; omega, by simp only; omega⟩, he, rfl, rfl⟩ hm0 hm
     refine sy_enterE rfl rfl (fun w => ?_)
     simp only [initFr, rrE, curE, List.cons_append, List.nil_append]
     repeat (first | refine sy_k rfl rfl ?_ | (refine gO ?_; first | refine sy_ov (ov_p rfl) rfl rfl ?_ | (refine gL ?_; refine sy_ov (ov_ld 3 rfl rfl rfl) rfl rfl ?_) | refine sy_ov (ov_fieldAddr rfl rfl rfl) rfl rfl ?_ | (refine sy_alloc rfl rfl rfl ?_; intro _)))
     refine sy_order [1, 2, 3, 0] rfl rfl ?_
     simp only [List.set_cons_zero, List.set_cons_succ, List.filterMap_cons, List.filterMap_nil, List.getElem?_cons_zero, List.getElem?_cons_succ]
     refine sy_callE (curE cb p q l _) rfl rfl rfl (hpeek) ?_
     rintro _ _ ⟨rfl, rfl⟩
     simp only [curE, List.cons_append, List.nil_append]
     repeat (first | refine sy_k rfl rfl ?_ | (refine gO ?_; first | refine sy_ov (ov_p rfl) rfl rfl ?_ | (refine gL ?_; refine sy_ov (ov_ld 0 rfl rfl rfl) rfl rfl ?_) | (refine gS ?_; refine sy_store 0 rfl rfl rfl rfl rfl rfl rfl rfl ?_) | refine sy_ov (ov_fieldAddr rfl rfl rfl) rfl rfl ?_ | refine sy_ov (ov_build rfl rfl rfl) rfl rfl ?_ | (refine sy_alloc rfl rfl rfl ?_; intro _)))
     rename_i b2 b3 b4
     refine sy_order [2, 3, 4, 0, 1, 5] rfl rfl ?_
     simp only [List.set_cons_zero, List.set_cons_succ, List.filterMap_cons, List.filterMap_nil, List.getElem?_cons_zero, List.getElem?_cons_succ]
     refine sy_callE (rrE rb cb p q l _ m) rfl rfl rfl hent ?_
     rintro _ _ ⟨rfl, rfl⟩
     simp only [rrE, curE, List.cons_append, List.nil_append]
     refine sy_order [0, 1, 2, 3, 5, 4] rfl rfl ?_
     simp only [List.set_cons_zero, List.set_cons_succ, List.filterMap_cons, List.filterMap_nil, List.getElem?_cons_zero, List.getElem?_cons_succ]
     repeat (first | refine sy_k rfl rfl ?_ | (refine gO ?_; first | refine sy_ov (ov_p rfl) rfl rfl ?_ | (refine gL ?_; refine sy_ov (ov_ld 3 rfl rfl rfl) rfl rfl ?_) | (refine gS ?_; refine sy_store 4 rfl rfl rfl rfl rfl rfl rfl rfl ?_)) | (refine sy_cond_t rfl ?_ ?_; (first | with_reducible rfl | assumption | omega | (simp <;> first | omega | assumption))) | refine sy_rt ?_)
     exact ret1cw 4 rfl rfl rfl rfl rfl fun w' hw' => postE hw' _ (sub_self (by simp only [rrE, curE, List.cons_append, List.nil_append]; exact sk (sk (sk (List.nil_sublist _))))) rfl (hVP _ rfl rfl)
   · have h1 : entB ⟨i, d, e, a⟩ m = true := by unfold entB; simp [h24, h4]
     have h2 : entC l ⟨i, d, e, a⟩ m = ⟨i, d + 1, e, a⟩ := by unfold entC; rw [if_neg h24, if_neg h4]
     rw [h1, h2] at hent
     have hc1 : CurOk l ⟨i, d + 1, e, a⟩ := ⟨hc.i0, hc.i1, by simp only; omega, by simp only; omega⟩
     have hk1 := cur_mark cb p q l ⟨i, d + 1, e, a⟩ hl hc1 [123]
     rw [mark_bad he (by simp)] at hk1
     have hk2 := cur_mark cb p q l ⟨i, d + 1, e, a⟩ hl hc1 [91]
     rw [mark_bad he (by simp)] at hk2
     have hgo : goT l ⟨i, d + 1, e, a⟩ false = ⟨i, d + 1, e, a⟩ := rfl
     rw [hgo] at hk1 hk2
     have hwr := rr_wrong rb cb p q l ⟨i, d + 1, e, a⟩ (m + 1) hl hc1
     rw [show wrongT l ⟨i, d + 1, e, a⟩ = ⟨i, d + 1, e, a⟩ from hfl _ _] at hwr
     have hlv := cur_leave cb p q l ⟨i, d + 1, e, a⟩ hc1
     rw [leave_d i d e a d0] at hlv
     have hVP := vp_bad (rb := rb) (cb := cb) (p := p) (q := q) (m' := m + 1) hst ⟨hc, he, rfl, rfl⟩ (by omega) (by omega)
     refine sy_enterE rfl rfl (fun w => ?_)
     simp only [initFr, rrE, curE, List.cons_append, List.nil_append]
     repeat (first | refine sy_k rfl rfl ?_ | (refine gO ?_; first | refine sy_ov (ov_p rfl) rfl rfl ?_ | (refine gL ?_; refine sy_ov (ov_ld 3 rfl rfl rfl) rfl rfl ?_) | refine sy_ov (ov_fieldAddr rfl rfl rfl) rfl rfl ?_ | (refine sy_alloc rfl rfl rfl ?_; intro _)))
     refine sy_order [1, 2, 3, 0] rfl rfl ?_
     simp only [List.set_cons_zero, List.set_cons_succ, List.filterMap_cons, List.filterMap_nil, List.getElem?_cons_zero, List.getElem?_cons_succ]
     refine sy_callE (curE cb p q l _) rfl rfl rfl (hpeek) ?_
     rintro _ _ ⟨rfl, rfl⟩
     simp only [curE, List.cons_append, List.nil_append]
     repeat (first | refine sy_k rfl rfl ?_ | (refine gO ?_; first | refine sy_ov (ov_p rfl) rfl rfl ?_ | (refine gL ?_; refine sy_ov (ov_ld 0 rfl rfl rfl) rfl rfl ?_) | (refine gS ?_; refine sy_store 0 rfl rfl rfl rfl rfl rfl rfl rfl ?_) | refine sy_ov (ov_fieldAddr rfl rfl rfl) rfl rfl ?_ | refine sy_ov (ov_build rfl rfl rfl) rfl rfl ?_ | (refine sy_alloc rfl rfl rfl ?_; intro _)))
     rename_i b2 b3 b4
     refine sy_order [2, 3, 4, 0, 1, 5] rfl rfl ?_
     simp only [List.set_cons_zero, List.set_cons_succ, List.filterMap_cons, List.filterMap_nil, List.getElem?_cons_zero, List.getElem?_cons_succ]
     refine sy_callE (rrE rb cb p q l _ m) rfl rfl rfl hent ?_
     rintro _ _ ⟨rfl, rfl⟩
     simp only [rrE, curE, List.cons_append, List.nil_append]
     repeat (first | refine sy_k rfl rfl ?_ | (refine gO ?_; first | refine sy_ov (ov_p rfl) rfl rfl ?_ | (refine gL ?_; refine sy_ov (ov_ld 2 rfl rfl rfl) rfl rfl ?_) | refine sy_ov (ov_fieldAddr rfl rfl rfl) rfl rfl ?_) | (refine sy_cond_f rfl ?_ ?_; (first | with_reducible rfl | assumption | omega | (simp <;> first | omega | assumption))))
     refine sy_callE (curE cb p q l _) rfl rfl rfl (hk1) ?_
     rintro _ _ ⟨rfl, rfl⟩
     simp only [curE, List.cons_append, List.nil_append]
     repeat (first | refine sy_k rfl rfl ?_ | (refine gO ?_; first | refine sy_ov (ov_p rfl) rfl rfl ?_ | (refine gL ?_; refine sy_ov (ov_ld 2 rfl rfl rfl) rfl rfl ?_) | refine sy_ov (ov_fieldAddr rfl rfl rfl) rfl rfl ?_) | (refine sy_cond_f rfl ?_ ?_; (first | with_reducible rfl | assumption | omega | (simp <;> first | omega | assumption))))
     refine sy_callE (curE cb p q l _) rfl rfl rfl (hk2) ?_
     rintro _ _ ⟨rfl, rfl⟩
     simp only [curE, List.cons_append, List.nil_append]
     repeat (first | refine sy_k rfl rfl ?_ | (refine gO ?_; first | refine sy_ov (ov_p rfl) rfl rfl ?_ | (refine gL ?_; refine sy_ov (ov_ld 4 rfl rfl rfl) rfl rfl ?_) | refine sy_ov (ov_fieldAddr rfl rfl rfl) rfl rfl ?_) | (refine sy_cond_f rfl ?_ ?_; (first | with_reducible rfl | assumption | omega | (simp <;> first | omega | assumption))))
     refine sy_callE (rrE rb cb p q l ⟨i, d + 1, e, a⟩ (m + 1)) rfl rfl rfl hwr ?_
     rintro _ _ ⟨rfl, rfl⟩
     simp only [rrE, curE, List.cons_append, List.nil_append]
     refine sy_order [0, 1, 2, 3, 5, 4] rfl rfl ?_
     simp only [List.set_cons_zero, List.set_cons_succ, List.filterMap_cons, List.filterMap_nil, List.getElem?_cons_zero, List.getElem?_cons_succ]
     repeat (first | refine sy_k rfl rfl ?_ | (refine gO ?_; first | refine sy_ov (ov_p rfl) rfl rfl ?_ | (refine gL ?_; refine sy_ov (ov_ld 2 rfl rfl rfl) rfl rfl ?_) | refine sy_ov (ov_fieldAddr rfl rfl rfl) rfl rfl ?_))
     refine sy_callE (curE cb p q l _) rfl rfl rfl (hlv) ?_
     rintro _ _ ⟨rfl, rfl⟩
     simp only [curE, List.cons_append, List.nil_append]
     repeat (first | refine sy_k rfl rfl ?_ | (refine gO ?_; first | (refine gL ?_; refine sy_ov (ov_ld 3 rfl rfl rfl) rfl rfl ?_) | (refine gS ?_; refine sy_store 4 rfl rfl rfl rfl rfl rfl rfl rfl ?_)) | refine sy_rt ?_)
     exact ret1cw 4 rfl rfl rfl rfl rfl fun w' hw' => postE hw' _ (sub_self (by simp only [rrE, curE, List.cons_append, List.nil_append]; exact sk (sk (sk (List.nil_sublist _))))) rfl (hVP _ rfl rfl)
end Go.Proofs.YtldjakeigjngoaaGreat
/- Contract: a value, as the program reads it: one that may begin. -/
namespace Go.Proofs.YtldjakeigjngoaaGreat
open Go.RowKit Bf
theorem vp_ok {rb cb : Nat} {p : Option Addr} {q : Nat} {l l' : List TokT} {i d m m' i' : Int} {v : RawP} (hst : stR l ⟨i, d, 0, 0⟩ m = .ok v l' m') (z : RawA) (hz : plR z = v) (hl' : l' = l.drop i'.toNat) (hlt : i < i') (hc : CurOk l ⟨i', d, 0, 0⟩) (h0 : 0 ≤ m') (h1 : m' ≤ 4096) :
 VP rb cb p q l ⟨i, d, 0, 0⟩ m (.agg ⟨rawV z⟩) (rrE rb cb p q l ⟨i', d, 0, 0⟩ m' ++ [rawE [z]]) := by
 unfold VP; rw [hst]; exact ⟨z, i', rfl, rfl, hz, hl', hlt, hc, h0, h1⟩
theorem curOk_down {l : List TokT} {i d e a : Int} (h : CurOk l ⟨i, d + 1, e, a⟩) (hd : 0 ≤ d) : CurOk l ⟨i, d, e, a⟩ := ⟨h.i0, h.i1, hd, by have := h.d1; simp only at this ⊢; omega⟩
set_option maxRecDepth 20000 in
set_option maxHeartbeats 8000000 in
theorem val_list (rec : Bool) (rb cb : Nat) (p : Option Addr) (q : Nat) (l : List TokT) (i d m : Int) (hl : TokOk l) (hli : TokI l) (hc : CurOk l ⟨i, d, 0, 0⟩) (h24 : d < 24) (h4 : m ≠ 4096) (hv1 : ValSpec (d + 1)) (hm0 : 0 ≤ m) (hm : m ≤ 4096) {t : TokT} (ht : l[i.toNat]? = some t)
 (hmk : if rec = true then mkB (l.drop i.toNat) [123] = true else mkB (l.drop i.toNat) [123] = false ∧ mkB (l.drop i.toNat) [91] = true) :
 CallsE Tryz.prog 19 [ptr rb] (rrE rb cb p q l ⟨i, d, 0, 0⟩ m) (VP rb cb p q l ⟨i, d, 0, 0⟩ m) := by
 have d0 := hc.d0
 simp only at d0
 obtain ⟨k, hk⟩ : ∃ k, (24 - (d + 1)).toNat = k := ⟨_, rfl⟩
 have hk1 : (24 - d).toNat = k + 1 := by omega
 have hst : stR l ⟨i, d, 0, 0⟩ m = valR (k + 1) (l.drop i.toNat) m := by unfold stR; rw [if_neg (fun h => h rfl)]; simp only [hk1]
 obtain ⟨hh, htl⟩ := hdT_at ht
 have htl' : (l.drop i.toNat).tail = l.drop (i + 1).toNat := by rw [htl, show (i + 1).toNat = i.toNat + 1 by have := hc.i0; simp only at this; omega]
 have hpeek := cur_peek cb p q l ⟨i, d, 0, 0⟩ hl hc
 rw [peek_at (c := ⟨i, d, 0, 0⟩) rfl ht] at hpeek
 have hent := rr_enter rb cb p q l ⟨i, d, 0, 0⟩ m hl hc ⟨hm0, hm⟩
 rw [show entB ⟨i, d, 0, 0⟩ m = true by unfold entB; simp [h4]; omega, show entC l ⟨i, d, 0, 0⟩ m = ⟨i, d + 1, 0, 0⟩ by unfold entC; rw [if_neg (by simp only; omega), if_neg h4]] at hent
 have hc1 : CurOk l ⟨i, d + 1, 0, 0⟩ := ⟨hc.i0, hc.i1, by simp only; omega, by simp only; omega⟩
 obtain ⟨hmk1, hnx1⟩ := mark_at (c := ⟨i, d + 1, 0, 0⟩) (t := [123]) rfl ht
 obtain ⟨hmk2, hnx2⟩ := mark_at (c := ⟨i, d + 1, 0, 0⟩) (t := [91]) rfl ht
 have hk123 := cur_mark cb p q l ⟨i, d + 1, 0, 0⟩ hl hc1 [123]
 have hk91 := cur_mark cb p q l ⟨i, d + 1, 0, 0⟩ hl hc1 [91]
 rw [hmk1] at hk123
 rw [hmk2] at hk91
 simp only at hk123 hk91 hnx1 hnx2
 cases rec
 · obtain ⟨hA, hB⟩ : mkB (l.drop i.toNat) [123] = false ∧ mkB (l.drop i.toNat) [91] = true := hmk
   rw [hA] at hk123
   rw [hB] at hk91
   have hn := hnx2 hB
   rw [show goT l ⟨i, d + 1, 0, 0⟩ false = ⟨i, d + 1, 0, 0⟩ from rfl] at hk123
   rw [show goT l ⟨i, d + 1, 0, 0⟩ true = ⟨i + 1, d + 1, 0, 0⟩ by unfold goT; rw [if_pos rfl]; exact hn] at hk91
   have hc2 : CurOk l ⟨i + 1, d + 1, 0, 0⟩ := by have := hc1.next hl; rw [hn] at this; exact this
   obtain ⟨R, hRR⟩ : ∃ R, bodyR (valR k) false [93] (l.drop (i + 1).toNat) (m + 1) = R := ⟨_, rfl⟩
   have hbr : valR (k + 1) (l.drop i.toNat) m = R.map fun r => .mk 4 t.2.1 0 [] r.1 r.2 := by
    rw [← hRR, ← htl', ← hh]; simp only [valR]; rw [if_neg h4, if_neg (by rw [hA]; decide), if_pos hB]
   have hrec := fun vb => list_c rb cb p q l (i + 1) (d + 1) (m + 1) vb t.2.1 hv1 hl hli hc2 (by omega) (by omega)
   rw [hk, hRR] at hrec
   cases hR : R with
   | ok kv l' m' =>
    have hst2 : stR l ⟨i, d, 0, 0⟩ m = .ok (.mk 4 t.2.1 0 [] kv.1 kv.2) l' m' := by rw [hst, hbr, hR]; rfl
    rw [hR] at hrec
    refine sy_enterE rfl rfl (fun w => ?_)
    simp only [initFr, rrE, curE, List.cons_append, List.nil_append]
    repeat (first | refine sy_k rfl rfl ?_ | (refine gO ?_; first | refine sy_ov (ov_p rfl) rfl rfl ?_ | (refine gL ?_; refine sy_ov (ov_ld 3 rfl rfl rfl) rfl rfl ?_) | refine sy_ov (ov_fieldAddr rfl rfl rfl) rfl rfl ?_ | (refine sy_alloc rfl rfl rfl ?_; intro _)))
    refine sy_order [1, 2, 3, 0] rfl rfl ?_
    simp only [List.set_cons_zero, List.set_cons_succ, List.filterMap_cons, List.filterMap_nil, List.getElem?_cons_zero, List.getElem?_cons_succ]
    refine sy_callE (curE cb p q l _) rfl rfl rfl (hpeek) ?_
    rintro _ _ ⟨rfl, rfl⟩
    simp only [curE, List.cons_append, List.nil_append]
    repeat (first | refine sy_k rfl rfl ?_ | (refine gO ?_; first | refine sy_ov (ov_p rfl) rfl rfl ?_ | (refine gL ?_; refine sy_ov (ov_ld 0 rfl rfl rfl) rfl rfl ?_) | (refine gS ?_; refine sy_store 0 rfl rfl rfl rfl rfl rfl rfl rfl ?_) | refine sy_ov (ov_fieldAddr rfl rfl rfl) rfl rfl ?_ | refine sy_ov (ov_build rfl rfl rfl) rfl rfl ?_ | (refine sy_alloc rfl rfl rfl ?_; intro _)))
    rename_i b2 b3 b4
    refine sy_order [2, 3, 4, 0, 1, 5] rfl rfl ?_
    simp only [List.set_cons_zero, List.set_cons_succ, List.filterMap_cons, List.filterMap_nil, List.getElem?_cons_zero, List.getElem?_cons_succ]
    refine sy_callE (rrE rb cb p q l _ m) rfl rfl rfl hent ?_
    rintro _ _ ⟨rfl, rfl⟩
    simp only [rrE, curE, List.cons_append, List.nil_append]
    repeat (first | refine sy_k rfl rfl ?_ | (refine gO ?_; first | refine sy_ov (ov_p rfl) rfl rfl ?_ | (refine gL ?_; refine sy_ov (ov_ld 2 rfl rfl rfl) rfl rfl ?_) | refine sy_ov (ov_fieldAddr rfl rfl rfl) rfl rfl ?_) | (refine sy_cond_f rfl ?_ ?_; (first | with_reducible rfl | assumption | omega | (simp <;> first | omega | assumption))))
    refine sy_callE (curE cb p q l _) rfl rfl rfl (hk123) ?_
    rintro _ _ ⟨rfl, rfl⟩
    simp only [curE, List.cons_append, List.nil_append]
    repeat (first | refine sy_k rfl rfl ?_ | (refine gO ?_; first | refine sy_ov (ov_p rfl) rfl rfl ?_ | (refine gL ?_; refine sy_ov (ov_ld 2 rfl rfl rfl) rfl rfl ?_) | refine sy_ov (ov_fieldAddr rfl rfl rfl) rfl rfl ?_) | (refine sy_cond_f rfl ?_ ?_; (first | with_reducible rfl | assumption | omega | (simp <;> first | omega | assumption))))
    refine sy_callE (curE cb p q l _) rfl rfl rfl (hk91) ?_
    rintro _ _ ⟨rfl, rfl⟩
    simp only [curE, List.cons_append, List.nil_append]
    repeat (first | refine sy_k rfl rfl ?_ | (refine gO ?_; refine sy_ov (ov_p rfl) rfl rfl ?_) | (refine sy_cond_t rfl ?_ ?_; (first | with_reducible rfl | assumption | omega | (simp <;> first | omega | assumption))))
    refine sy_callE (rrE rb cb p q l ⟨i + 1, d + 1, 0, 0⟩ (m + 1) ++ [blk b4 26 (v0C t.2.1)]) rfl rfl rfl (hrec b4) ?_
    intro u es' hV
    simp only [LP] at hV
    obtain ⟨rfl, i', x', rfl, hks, hzs, hl', hlt, hc', hm0', hm1'⟩ := hV
    have hlv := cur_leave cb p q l ⟨i', d + 1, 0, 0⟩ hc'
    rw [leave_d i' d 0 0 d0] at hlv
    have hVP := vp_ok (rb := rb) (cb := cb) (p := p) (q := q) hst2 (.mk 4 t.2.1 0 [] x'.pk x'.ck x'.ks x'.p x'.c x'.zs) (by rw [← hks, ← hzs]; rfl) hl' (by omega) (curOk_down hc' d0) hm0' hm1'
    simp only [rrE, contE, curE, List.cons_append, List.nil_append]
    refine sy_order [4, 5, 6, 0, 1, 2, 3, 8, 7] rfl rfl ?_
    simp only [List.set_cons_zero, List.set_cons_succ, List.filterMap_cons, List.filterMap_nil, List.getElem?_cons_zero, List.getElem?_cons_succ]
    refine sy_rawMk 4 t.2.1 0 [] ?_
    refine sy_order [1, 2, 3, 4, 5, 0, 6] rfl rfl ?_
    simp only [List.set_cons_zero, List.set_cons_succ, List.filterMap_cons, List.filterMap_nil, List.getElem?_cons_zero, List.getElem?_cons_succ]
    repeat (first | refine sy_k rfl rfl ?_ | (refine gO ?_; first | refine sy_ov (ov_p rfl) rfl rfl ?_ | (refine gL ?_; refine sy_ov (ov_ld 2 rfl rfl rfl) rfl rfl ?_) | refine sy_ov (ov_fieldAddr rfl rfl rfl) rfl rfl ?_))
    refine sy_callE (curE cb p q l _) rfl rfl rfl (hlv) ?_
    rintro _ _ ⟨rfl, rfl⟩
    simp only [curE, List.cons_append, List.nil_append]
    repeat (first | refine sy_k rfl rfl ?_ | (refine gO ?_; first | (refine gL ?_; refine sy_ov (ov_ld 3 rfl rfl rfl) rfl rfl ?_) | (refine gS ?_; refine sy_store 4 rfl rfl rfl rfl rfl rfl rfl rfl ?_)) | refine sy_rt ?_)
    refine ret1cw 4 rfl rfl rfl rfl rfl fun w' hw' => ?_
    exact postE hw' _ (sub_self (by simp only [rrE, curE, List.cons_append, List.nil_append]; exact sk (sk (sk (sd (sd (sk (List.nil_sublist _)))))))) rfl hVP
   | bad e' a' =>
    have hst2 : stR l ⟨i, d, 0, 0⟩ m = .bad e' a' := by rw [hst, hbr, hR]; rfl
    rw [hR] at hrec
    refine sy_enterE rfl rfl (fun w => ?_)
    simp only [initFr, rrE, curE, List.cons_append, List.nil_append]
    repeat (first | refine sy_k rfl rfl ?_ | (refine gO ?_; first | refine sy_ov (ov_p rfl) rfl rfl ?_ | (refine gL ?_; refine sy_ov (ov_ld 3 rfl rfl rfl) rfl rfl ?_) | refine sy_ov (ov_fieldAddr rfl rfl rfl) rfl rfl ?_ | (refine sy_alloc rfl rfl rfl ?_; intro _)))
    refine sy_order [1, 2, 3, 0] rfl rfl ?_
    simp only [List.set_cons_zero, List.set_cons_succ, List.filterMap_cons, List.filterMap_nil, List.getElem?_cons_zero, List.getElem?_cons_succ]
    refine sy_callE (curE cb p q l _) rfl rfl rfl (hpeek) ?_
    rintro _ _ ⟨rfl, rfl⟩
    simp only [curE, List.cons_append, List.nil_append]
    repeat (first | refine sy_k rfl rfl ?_ | (refine gO ?_; first | refine sy_ov (ov_p rfl) rfl rfl ?_ | (refine gL ?_; refine sy_ov (ov_ld 0 rfl rfl rfl) rfl rfl ?_) | (refine gS ?_; refine sy_store 0 rfl rfl rfl rfl rfl rfl rfl rfl ?_) | refine sy_ov (ov_fieldAddr rfl rfl rfl) rfl rfl ?_ | refine sy_ov (ov_build rfl rfl rfl) rfl rfl ?_ | (refine sy_alloc rfl rfl rfl ?_; intro _)))
    rename_i b2 b3 b4
    refine sy_order [2, 3, 4, 0, 1, 5] rfl rfl ?_
    simp only [List.set_cons_zero, List.set_cons_succ, List.filterMap_cons, List.filterMap_nil, List.getElem?_cons_zero, List.getElem?_cons_succ]
    refine sy_callE (rrE rb cb p q l _ m) rfl rfl rfl hent ?_
    rintro _ _ ⟨rfl, rfl⟩
    simp only [rrE, curE, List.cons_append, List.nil_append]
    repeat (first | refine sy_k rfl rfl ?_ | (refine gO ?_; first | refine sy_ov (ov_p rfl) rfl rfl ?_ | (refine gL ?_; refine sy_ov (ov_ld 2 rfl rfl rfl) rfl rfl ?_) | refine sy_ov (ov_fieldAddr rfl rfl rfl) rfl rfl ?_) | (refine sy_cond_f rfl ?_ ?_; (first | with_reducible rfl | assumption | omega | (simp <;> first | omega | assumption))))
    refine sy_callE (curE cb p q l _) rfl rfl rfl (hk123) ?_
    rintro _ _ ⟨rfl, rfl⟩
    simp only [curE, List.cons_append, List.nil_append]
    repeat (first | refine sy_k rfl rfl ?_ | (refine gO ?_; first | refine sy_ov (ov_p rfl) rfl rfl ?_ | (refine gL ?_; refine sy_ov (ov_ld 2 rfl rfl rfl) rfl rfl ?_) | refine sy_ov (ov_fieldAddr rfl rfl rfl) rfl rfl ?_) | (refine sy_cond_f rfl ?_ ?_; (first | with_reducible rfl | assumption | omega | (simp <;> first | omega | assumption))))
    refine sy_callE (curE cb p q l _) rfl rfl rfl (hk91) ?_
    rintro _ _ ⟨rfl, rfl⟩
    simp only [curE, List.cons_append, List.nil_append]
    repeat (first | refine sy_k rfl rfl ?_ | (refine gO ?_; refine sy_ov (ov_p rfl) rfl rfl ?_) | (refine sy_cond_t rfl ?_ ?_; (first | with_reducible rfl | assumption | omega | (simp <;> first | omega | assumption))))
    refine sy_callE (rrE rb cb p q l ⟨i + 1, d + 1, 0, 0⟩ (m + 1) ++ [blk b4 26 (v0C t.2.1)]) rfl rfl rfl (hrec b4) ?_
    intro u es' hV
    simp only [LP] at hV
    obtain ⟨rfl, c', m', cs, rfl, hc6, hone, hB, hm0', hm1'⟩ := hV
    have hlv := cur_leave cb p q l c' hB.ok
    have hVP := vp_bad (rb := rb) (cb := cb) (p := p) (q := q) hst2 hB.leave hm0' hm1'
    obtain ⟨c0, c1, c2, c3, c4, c5, rfl⟩ := six hc6
    simp only [rrE, curE, List.cons_append, List.nil_append]
    refine sy_order [0, 1, 2, 3, 5, 4] rfl rfl ?_
    simp only [List.set_cons_zero, List.set_cons_succ, List.filterMap_cons, List.filterMap_nil, List.getElem?_cons_zero, List.getElem?_cons_succ]
    repeat (first | refine sy_k rfl rfl ?_ | (refine gO ?_; first | refine sy_ov (ov_p rfl) rfl rfl ?_ | (refine gL ?_; refine sy_ov (ov_ld 2 rfl rfl rfl) rfl rfl ?_) | refine sy_ov (ov_fieldAddr rfl rfl rfl) rfl rfl ?_))
    refine sy_callE (curE cb p q l _) rfl rfl rfl (hlv) ?_
    rintro _ _ ⟨rfl, rfl⟩
    simp only [curE, List.cons_append, List.nil_append]
    repeat (first | refine sy_k rfl rfl ?_ | (refine gO ?_; (refine gL ?_; refine sy_ov (ov_ld 3 rfl rfl rfl) rfl rfl ?_)))
    refine sy_store 4 rfl rfl rfl rfl rfl hone rfl rfl ?_
    repeat (first | refine sy_k rfl rfl ?_ | refine sy_rt ?_)
    refine ret1cw 4 rfl rfl rfl rfl rfl fun w' hw' => ?_
    exact postE hw' _ (sub_self (by simp only [rrE, curE, List.cons_append, List.nil_append]; exact sk (sk (sk (List.nil_sublist _))))) rfl (hVP _ rfl hone)
 · have hA : mkB (l.drop i.toNat) [123] = true := hmk
   rw [hA] at hk123
   have hn := hnx1 hA
   rw [show goT l ⟨i, d + 1, 0, 0⟩ true = ⟨i + 1, d + 1, 0, 0⟩ by unfold goT; rw [if_pos rfl]; exact hn] at hk123
   have hc2 : CurOk l ⟨i + 1, d + 1, 0, 0⟩ := by have := hc1.next hl; rw [hn] at this; exact this
   obtain ⟨R, hRR⟩ : ∃ R, bodyR (valR k) true [125] (l.drop (i + 1).toNat) (m + 1) = R := ⟨_, rfl⟩
   have hbr : valR (k + 1) (l.drop i.toNat) m = R.map fun r => .mk 5 t.2.1 0 [] r.1 r.2 := by
    rw [← hRR, ← htl', ← hh]; simp only [valR]; rw [if_neg h4, if_pos hA]
   have hrec := fun vb => record_c rb cb p q l (i + 1) (d + 1) (m + 1) vb t.2.1 hv1 hl hli hc2 (by omega) (by omega)
   rw [hk, hRR] at hrec
   cases hR : R with
   | ok kv l' m' =>
    have hst2 : stR l ⟨i, d, 0, 0⟩ m = .ok (.mk 5 t.2.1 0 [] kv.1 kv.2) l' m' := by rw [hst, hbr, hR]; rfl
    rw [hR] at hrec
    refine sy_enterE rfl rfl (fun w => ?_)
    simp only [initFr, rrE, curE, List.cons_append, List.nil_append]
    repeat (first | refine sy_k rfl rfl ?_ | (refine gO ?_; first | refine sy_ov (ov_p rfl) rfl rfl ?_ | (refine gL ?_; refine sy_ov (ov_ld 3 rfl rfl rfl) rfl rfl ?_) | refine sy_ov (ov_fieldAddr rfl rfl rfl) rfl rfl ?_ | (refine sy_alloc rfl rfl rfl ?_; intro _)))
    refine sy_order [1, 2, 3, 0] rfl rfl ?_
    simp only [List.set_cons_zero, List.set_cons_succ, List.filterMap_cons, List.filterMap_nil, List.getElem?_cons_zero, List.getElem?_cons_succ]
    refine sy_callE (curE cb p q l _) rfl rfl rfl (hpeek) ?_
    rintro _ _ ⟨rfl, rfl⟩
    simp only [curE, List.cons_append, List.nil_append]
    repeat (first | refine sy_k rfl rfl ?_ | (refine gO ?_; first | refine sy_ov (ov_p rfl) rfl rfl ?_ | (refine gL ?_; refine sy_ov (ov_ld 0 rfl rfl rfl) rfl rfl ?_) | (refine gS ?_; refine sy_store 0 rfl rfl rfl rfl rfl rfl rfl rfl ?_) | refine sy_ov (ov_fieldAddr rfl rfl rfl) rfl rfl ?_ | refine sy_ov (ov_build rfl rfl rfl) rfl rfl ?_ | (refine sy_alloc rfl rfl rfl ?_; intro _)))
    rename_i b2 b3 b4
    refine sy_order [2, 3, 4, 0, 1, 5] rfl rfl ?_
    simp only [List.set_cons_zero, List.set_cons_succ, List.filterMap_cons, List.filterMap_nil, List.getElem?_cons_zero, List.getElem?_cons_succ]
    refine sy_callE (rrE rb cb p q l _ m) rfl rfl rfl hent ?_
    rintro _ _ ⟨rfl, rfl⟩
    simp only [rrE, curE, List.cons_append, List.nil_append]
    repeat (first | refine sy_k rfl rfl ?_ | (refine gO ?_; first | refine sy_ov (ov_p rfl) rfl rfl ?_ | (refine gL ?_; refine sy_ov (ov_ld 2 rfl rfl rfl) rfl rfl ?_) | refine sy_ov (ov_fieldAddr rfl rfl rfl) rfl rfl ?_) | (refine sy_cond_f rfl ?_ ?_; (first | with_reducible rfl | assumption | omega | (simp <;> first | omega | assumption))))
    refine sy_callE (curE cb p q l _) rfl rfl rfl (hk123) ?_
    rintro _ _ ⟨rfl, rfl⟩
    simp only [curE, List.cons_append, List.nil_append]
    repeat (first | refine sy_k rfl rfl ?_ | (refine gO ?_; refine sy_ov (ov_p rfl) rfl rfl ?_) | (refine sy_cond_t rfl ?_ ?_; (first | with_reducible rfl | assumption | omega | (simp <;> first | omega | assumption))))
    refine sy_callE (rrE rb cb p q l ⟨i + 1, d + 1, 0, 0⟩ (m + 1) ++ [blk b4 26 (v0C t.2.1)]) rfl rfl rfl (hrec b4) ?_
    intro u es' hV
    simp only [LP] at hV
    obtain ⟨rfl, i', x', rfl, hks, hzs, hl', hlt, hc', hm0', hm1'⟩ := hV
    have hlv := cur_leave cb p q l ⟨i', d + 1, 0, 0⟩ hc'
    rw [leave_d i' d 0 0 d0] at hlv
    have hVP := vp_ok (rb := rb) (cb := cb) (p := p) (q := q) hst2 (.mk 5 t.2.1 0 [] x'.pk x'.ck x'.ks x'.p x'.c x'.zs) (by rw [← hks, ← hzs]; rfl) hl' (by omega) (curOk_down hc' d0) hm0' hm1'
    simp only [rrE, contE, curE, List.cons_append, List.nil_append]
    refine sy_order [4, 5, 6, 0, 1, 2, 3, 8, 7] rfl rfl ?_
    simp only [List.set_cons_zero, List.set_cons_succ, List.filterMap_cons, List.filterMap_nil, List.getElem?_cons_zero, List.getElem?_cons_succ]
    refine sy_rawMk 5 t.2.1 0 [] ?_
    refine sy_order [1, 2, 3, 4, 5, 0, 6] rfl rfl ?_
    simp only [List.set_cons_zero, List.set_cons_succ, List.filterMap_cons, List.filterMap_nil, List.getElem?_cons_zero, List.getElem?_cons_succ]
    repeat (first | refine sy_k rfl rfl ?_ | (refine gO ?_; first | refine sy_ov (ov_p rfl) rfl rfl ?_ | (refine gL ?_; refine sy_ov (ov_ld 2 rfl rfl rfl) rfl rfl ?_) | refine sy_ov (ov_fieldAddr rfl rfl rfl) rfl rfl ?_))
    refine sy_callE (curE cb p q l _) rfl rfl rfl (hlv) ?_
    rintro _ _ ⟨rfl, rfl⟩
    simp only [curE, List.cons_append, List.nil_append]
    repeat (first | refine sy_k rfl rfl ?_ | (refine gO ?_; first | (refine gL ?_; refine sy_ov (ov_ld 3 rfl rfl rfl) rfl rfl ?_) | (refine gS ?_; refine sy_store 4 rfl rfl rfl rfl rfl rfl rfl rfl ?_)) | refine sy_rt ?_)
    refine ret1cw 4 rfl rfl rfl rfl rfl fun w' hw' => ?_
    exact postE hw' _ (sub_self (by simp only [rrE, curE, List.cons_append, List.nil_append]; exact sk (sk (sk (sd (sd (sk (List.nil_sublist _)))))))) rfl hVP
   | bad e' a' =>
    have hst2 : stR l ⟨i, d, 0, 0⟩ m = .bad e' a' := by rw [hst, hbr, hR]; rfl
    rw [hR] at hrec
    refine sy_enterE rfl rfl (fun w => ?_)
    simp only [initFr, rrE, curE, List.cons_append, List.nil_append]
    repeat (first | refine sy_k rfl rfl ?_ | (refine gO ?_; first | refine sy_ov (ov_p rfl) rfl rfl ?_ | (refine gL ?_; refine sy_ov (ov_ld 3 rfl rfl rfl) rfl rfl ?_) | refine sy_ov (ov_fieldAddr rfl rfl rfl) rfl rfl ?_ | (refine sy_alloc rfl rfl rfl ?_; intro _)))
    refine sy_order [1, 2, 3, 0] rfl rfl ?_
    simp only [List.set_cons_zero, List.set_cons_succ, List.filterMap_cons, List.filterMap_nil, List.getElem?_cons_zero, List.getElem?_cons_succ]
    refine sy_callE (curE cb p q l _) rfl rfl rfl (hpeek) ?_
    rintro _ _ ⟨rfl, rfl⟩
    simp only [curE, List.cons_append, List.nil_append]
    repeat (first | refine sy_k rfl rfl ?_ | (refine gO ?_; first | refine sy_ov (ov_p rfl) rfl rfl ?_ | (refine gL ?_; refine sy_ov (ov_ld 0 rfl rfl rfl) rfl rfl ?_) | (refine gS ?_; refine sy_store 0 rfl rfl rfl rfl rfl rfl rfl rfl ?_) | refine sy_ov (ov_fieldAddr rfl rfl rfl) rfl rfl ?_ | refine sy_ov (ov_build rfl rfl rfl) rfl rfl ?_ | (refine sy_alloc rfl rfl rfl ?_; intro _)))
    rename_i b2 b3 b4
    refine sy_order [2, 3, 4, 0, 1, 5] rfl rfl ?_
    simp only [List.set_cons_zero, List.set_cons_succ, List.filterMap_cons, List.filterMap_nil, List.getElem?_cons_zero, List.getElem?_cons_succ]
    refine sy_callE (rrE rb cb p q l _ m) rfl rfl rfl hent ?_
    rintro _ _ ⟨rfl, rfl⟩
    simp only [rrE, curE, List.cons_append, List.nil_append]
    repeat (first | refine sy_k rfl rfl ?_ | (refine gO ?_; first | refine sy_ov (ov_p rfl) rfl rfl ?_ | (refine gL ?_; refine sy_ov (ov_ld 2 rfl rfl rfl) rfl rfl ?_) | refine sy_ov (ov_fieldAddr rfl rfl rfl) rfl rfl ?_) | (refine sy_cond_f rfl ?_ ?_; (first | with_reducible rfl | assumption | omega | (simp <;> first | omega | assumption))))
    refine sy_callE (curE cb p q l _) rfl rfl rfl (hk123) ?_
    rintro _ _ ⟨rfl, rfl⟩
    simp only [curE, List.cons_append, List.nil_append]
    repeat (first | refine sy_k rfl rfl ?_ | (refine gO ?_; refine sy_ov (ov_p rfl) rfl rfl ?_) | (refine sy_cond_t rfl ?_ ?_; (first | with_reducible rfl | assumption | omega | (simp <;> first | omega | assumption))))
    refine sy_callE (rrE rb cb p q l ⟨i + 1, d + 1, 0, 0⟩ (m + 1) ++ [blk b4 26 (v0C t.2.1)]) rfl rfl rfl (hrec b4) ?_
    intro u es' hV
    simp only [LP] at hV
    obtain ⟨rfl, c', m', cs, rfl, hc6, hone, hB, hm0', hm1'⟩ := hV
    have hlv := cur_leave cb p q l c' hB.ok
    have hVP := vp_bad (rb := rb) (cb := cb) (p := p) (q := q) hst2 hB.leave hm0' hm1'
    obtain ⟨c0, c1, c2, c3, c4, c5, rfl⟩ := six hc6
    simp only [rrE, curE, List.cons_append, List.nil_append]
    refine sy_order [0, 1, 2, 3, 5, 4] rfl rfl ?_
    simp only [List.set_cons_zero, List.set_cons_succ, List.filterMap_cons, List.filterMap_nil, List.getElem?_cons_zero, List.getElem?_cons_succ]
    repeat (first | refine sy_k rfl rfl ?_ | (refine gO ?_; first | refine sy_ov (ov_p rfl) rfl rfl ?_ | (refine gL ?_; refine sy_ov (ov_ld 2 rfl rfl rfl) rfl rfl ?_) | refine sy_ov (ov_fieldAddr rfl rfl rfl) rfl rfl ?_))
    refine sy_callE (curE cb p q l _) rfl rfl rfl (hlv) ?_
    rintro _ _ ⟨rfl, rfl⟩
    simp only [curE, List.cons_append, List.nil_append]
    repeat (first | refine sy_k rfl rfl ?_ | (refine gO ?_; (refine gL ?_; refine sy_ov (ov_ld 3 rfl rfl rfl) rfl rfl ?_)))
    refine sy_store 4 rfl rfl rfl rfl rfl hone rfl rfl ?_
    repeat (first | refine sy_k rfl rfl ?_ | refine sy_rt ?_)
    refine ret1cw 4 rfl rfl rfl rfl rfl fun w' hw' => ?_
    exact postE hw' _ (sub_self (by simp only [rrE, curE, List.cons_append, List.nil_append]; exact sk (sk (sk (List.nil_sublist _))))) rfl (hVP _ rfl hone)
end Go.Proofs.YtldjakeigjngoaaGreat
/- Contract: a value, as the program reads it: numbers, texts, words, and what may not begin. -/
namespace Go.Proofs.YtldjakeigjngoaaGreat
open Go.RowKit Bf
set_option maxRecDepth 20000 in
set_option maxHeartbeats 8000000 in
theorem val_int (rb cb : Nat) (p : Option Addr) (q : Nat) (l : List TokT) (i d m : Int) (hl : TokOk l) (hli : TokI l) (hc : CurOk l ⟨i, d, 0, 0⟩) (h24 : d < 24) (h4 : m ≠ 4096) (hv1 : ValSpec (d + 1)) (hm0 : 0 ≤ m) (hm : m ≤ 4096) {t : TokT} (ht : l[i.toNat]? = some t)
 (hA : mkB (l.drop i.toNat) [123] = false) (hB : mkB (l.drop i.toNat) [91] = false) (t2 : t.1 = 2) :
 CallsE Tryz.prog 19 [ptr rb] (rrE rb cb p q l ⟨i, d, 0, 0⟩ m) (VP rb cb p q l ⟨i, d, 0, 0⟩ m) := by
 have d0 := hc.d0
 simp only at d0
 obtain ⟨k, hk⟩ : ∃ k, (24 - (d + 1)).toNat = k := ⟨_, rfl⟩
 have hk1 : (24 - d).toNat = k + 1 := by omega
 have hst : stR l ⟨i, d, 0, 0⟩ m = valR (k + 1) (l.drop i.toNat) m := by unfold stR; rw [if_neg (fun h => h rfl)]; simp only [hk1]
 obtain ⟨hh, htl⟩ := hdT_at ht
 have htl' : (l.drop i.toNat).tail = l.drop (i + 1).toNat := by rw [htl, show (i + 1).toNat = i.toNat + 1 by have := hc.i0; simp only at this; omega]
 have hpeek := cur_peek cb p q l ⟨i, d, 0, 0⟩ hl hc
 rw [peek_at (c := ⟨i, d, 0, 0⟩) rfl ht] at hpeek
 have hent := rr_enter rb cb p q l ⟨i, d, 0, 0⟩ m hl hc ⟨hm0, hm⟩
 rw [show entB ⟨i, d, 0, 0⟩ m = true by unfold entB; simp [h4]; omega, show entC l ⟨i, d, 0, 0⟩ m = ⟨i, d + 1, 0, 0⟩ by unfold entC; rw [if_neg (by simp only; omega), if_neg h4]] at hent
 have hc1 : CurOk l ⟨i, d + 1, 0, 0⟩ := ⟨hc.i0, hc.i1, by simp only; omega, by simp only; omega⟩
 obtain ⟨hmk1, hnx1⟩ := mark_at (c := ⟨i, d + 1, 0, 0⟩) (t := [123]) rfl ht
 obtain ⟨hmk2, hnx2⟩ := mark_at (c := ⟨i, d + 1, 0, 0⟩) (t := [91]) rfl ht
 have hk123 := cur_mark cb p q l ⟨i, d + 1, 0, 0⟩ hl hc1 [123]
 have hk91 := cur_mark cb p q l ⟨i, d + 1, 0, 0⟩ hl hc1 [91]
 rw [hmk1] at hk123
 rw [hmk2] at hk91
 simp only at hk123 hk91 hnx1 hnx2
 rw [hA] at hk123
 rw [hB] at hk91
 rw [show goT l ⟨i, d + 1, 0, 0⟩ false = ⟨i, d + 1, 0, 0⟩ from rfl] at hk123 hk91
 have hnx := next_at (c := ⟨i, d + 1, 0, 0⟩) rfl ht (by omega)
 have hnext := cur_next cb p q l ⟨i, d + 1, 0, 0⟩ hl hc1
 have hc2 := hc1.next hl
 rw [peek_at (c := ⟨i, d + 1, 0, 0⟩) rfl ht] at hnext
 rw [hnx] at hnext hc2
 simp only at hnext hc2
 have hlv := cur_leave cb p q l ⟨i + 1, d + 1, 0, 0⟩ hc2
 rw [leave_d (i + 1) d 0 0 d0] at hlv
 have hbr : valR (k + 1) (l.drop i.toNat) m = .ok (.mk 2 t.2.1 t.2.2.2.2 [] [] []) (l.drop (i + 1).toNat) (m + 1) := by
  rw [← htl', ← hh]; simp only [valR]; rw [if_neg h4, if_neg (by rw [hA]; decide), if_neg (by rw [hB]; decide), if_pos (by rw [hh]; exact t2)]
 have hst2 : stR l ⟨i, d, 0, 0⟩ m = .ok (.mk 2 t.2.1 t.2.2.2.2 [] [] []) (l.drop (i + 1).toNat) (m + 1) := by rw [hst, hbr]
 have hVP := vp_ok (rb := rb) (cb := cb) (p := p) (q := q) hst2 (.mk 2 t.2.1 t.2.2.2.2 [] none 0 [] none 0 []) rfl rfl (by omega) (curOk_down hc2 d0) (by omega) (by omega)
 refine sy_enterE rfl rfl (fun w => ?_)
 simp only [initFr, rrE, curE, List.cons_append, List.nil_append]
 repeat (first | refine sy_k rfl rfl ?_ | (refine gO ?_; first | refine sy_ov (ov_p rfl) rfl rfl ?_ | (refine gL ?_; refine sy_ov (ov_ld 3 rfl rfl rfl) rfl rfl ?_) | refine sy_ov (ov_fieldAddr rfl rfl rfl) rfl rfl ?_ | (refine sy_alloc rfl rfl rfl ?_; intro _)))
 refine sy_order [1, 2, 3, 0] rfl rfl ?_
 simp only [List.set_cons_zero, List.set_cons_succ, List.filterMap_cons, List.filterMap_nil, List.getElem?_cons_zero, List.getElem?_cons_succ]
 refine sy_callE (curE cb p q l _) rfl rfl rfl (hpeek) ?_
 rintro _ _ ⟨rfl, rfl⟩
 simp only [curE, List.cons_append, List.nil_append]
 repeat (first | refine sy_k rfl rfl ?_ | (refine gO ?_; first | refine sy_ov (ov_p rfl) rfl rfl ?_ | (refine gL ?_; refine sy_ov (ov_ld 0 rfl rfl rfl) rfl rfl ?_) | (refine gS ?_; refine sy_store 0 rfl rfl rfl rfl rfl rfl rfl rfl ?_) | refine sy_ov (ov_fieldAddr rfl rfl rfl) rfl rfl ?_ | refine sy_ov (ov_build rfl rfl rfl) rfl rfl ?_ | (refine sy_alloc rfl rfl rfl ?_; intro _)))
 rename_i b2 b3 b4
 refine sy_order [2, 3, 4, 0, 1, 5] rfl rfl ?_
 simp only [List.set_cons_zero, List.set_cons_succ, List.filterMap_cons, List.filterMap_nil, List.getElem?_cons_zero, List.getElem?_cons_succ]
 refine sy_callE (rrE rb cb p q l _ m) rfl rfl rfl hent ?_
 rintro _ _ ⟨rfl, rfl⟩
 simp only [rrE, curE, List.cons_append, List.nil_append]
 repeat (first | refine sy_k rfl rfl ?_ | (refine gO ?_; first | refine sy_ov (ov_p rfl) rfl rfl ?_ | (refine gL ?_; refine sy_ov (ov_ld 2 rfl rfl rfl) rfl rfl ?_) | refine sy_ov (ov_fieldAddr rfl rfl rfl) rfl rfl ?_) | (refine sy_cond_f rfl ?_ ?_; (first | with_reducible rfl | assumption | omega | (simp <;> first | omega | assumption))))
 refine sy_callE (curE cb p q l _) rfl rfl rfl (hk123) ?_
 rintro _ _ ⟨rfl, rfl⟩
 simp only [curE, List.cons_append, List.nil_append]
 repeat (first | refine sy_k rfl rfl ?_ | (refine gO ?_; first | refine sy_ov (ov_p rfl) rfl rfl ?_ | (refine gL ?_; refine sy_ov (ov_ld 2 rfl rfl rfl) rfl rfl ?_) | refine sy_ov (ov_fieldAddr rfl rfl rfl) rfl rfl ?_) | (refine sy_cond_f rfl ?_ ?_; (first | with_reducible rfl | assumption | omega | (simp <;> first | omega | assumption))))
 refine sy_callE (curE cb p q l _) rfl rfl rfl (hk91) ?_
 rintro _ _ ⟨rfl, rfl⟩
 simp only [curE, List.cons_append, List.nil_append]
 repeat (first | refine sy_k rfl rfl ?_ | (refine gO ?_; first | refine sy_ov (ov_p rfl) rfl rfl ?_ | (refine gL ?_; first | refine sy_ov (ov_ld 2 rfl rfl rfl) rfl rfl ?_ | refine sy_ov (ov_ld 4 rfl rfl rfl) rfl rfl ?_) | refine sy_ov (ov_fieldAddr rfl rfl rfl) rfl rfl ?_) | (refine sy_cond_t rfl ?_ ?_; (first | with_reducible rfl | assumption | omega | (simp <;> first | omega | assumption))) | (refine sy_cond_f rfl ?_ ?_; (first | with_reducible rfl | assumption | omega | (simp <;> first | omega | assumption))))
 refine sy_callE (curE cb p q l _) rfl rfl rfl (hnext) ?_
 rintro _ _ ⟨rfl, rfl⟩
 simp only [curE, List.cons_append, List.nil_append]
 repeat (first | refine sy_k rfl rfl ?_ | (refine gO ?_; first | refine sy_ov (ov_p rfl) rfl rfl ?_ | (refine gL ?_; refine sy_ov (ov_ld 2 rfl rfl rfl) rfl rfl ?_) | (refine gS ?_; refine sy_store 3 rfl rfl rfl rfl rfl rfl rfl rfl ?_) | refine sy_ov (ov_fieldAddr rfl rfl rfl) rfl rfl ?_ | refine sy_ov (ov_field rfl rfl rfl) rfl rfl ?_))
 refine sy_callE (curE cb p q l _) rfl rfl rfl (hlv) ?_
 rintro _ _ ⟨rfl, rfl⟩
 simp only [curE, List.cons_append, List.nil_append]
 refine sy_rawNil ?_
 refine sy_grow 26 6 ?_
 refine sy_grow 36 2 ?_
 refine sy_rawMk (pk := none) (ck := 0) (keys := []) (p := none) (c := 0) (kids := []) 2 t.2.1 t.2.2.2.2 [] ?_
 refine sy_order [1, 2, 3, 4, 6, 0, 5] rfl rfl ?_
 simp only [List.set_cons_zero, List.set_cons_succ, List.filterMap_cons, List.filterMap_nil, List.getElem?_cons_zero, List.getElem?_cons_succ]
 repeat (first | refine sy_k rfl rfl ?_ | (refine gO ?_; first | (refine gL ?_; refine sy_ov (ov_ld 3 rfl rfl rfl) rfl rfl ?_) | (refine gS ?_; refine sy_store 4 rfl rfl rfl rfl rfl rfl rfl rfl ?_)) | refine sy_rt ?_)
 refine ret1cw 4 rfl rfl rfl rfl rfl fun w' hw' => ?_
 exact postE hw' _ (sub_self (by simp only [rrE, curE, List.cons_append, List.nil_append]; exact sk (sk (sk (sd (sd (sk (List.nil_sublist _)))))))) rfl hVP
set_option maxRecDepth 20000 in
set_option maxHeartbeats 8000000 in
theorem val_text (rb cb : Nat) (p : Option Addr) (q : Nat) (l : List TokT) (i d m : Int) (hl : TokOk l) (hli : TokI l) (hc : CurOk l ⟨i, d, 0, 0⟩) (h24 : d < 24) (h4 : m ≠ 4096) (hv1 : ValSpec (d + 1)) (hm0 : 0 ≤ m) (hm : m ≤ 4096) {t : TokT} (ht : l[i.toNat]? = some t)
 (hA : mkB (l.drop i.toNat) [123] = false) (hB : mkB (l.drop i.toNat) [91] = false) (t3 : t.1 = 3) :
 CallsE Tryz.prog 19 [ptr rb] (rrE rb cb p q l ⟨i, d, 0, 0⟩ m) (VP rb cb p q l ⟨i, d, 0, 0⟩ m) := by
 have d0 := hc.d0
 simp only at d0
 obtain ⟨k, hk⟩ : ∃ k, (24 - (d + 1)).toNat = k := ⟨_, rfl⟩
 have hk1 : (24 - d).toNat = k + 1 := by omega
 have hst : stR l ⟨i, d, 0, 0⟩ m = valR (k + 1) (l.drop i.toNat) m := by unfold stR; rw [if_neg (fun h => h rfl)]; simp only [hk1]
 obtain ⟨hh, htl⟩ := hdT_at ht
 have htl' : (l.drop i.toNat).tail = l.drop (i + 1).toNat := by rw [htl, show (i + 1).toNat = i.toNat + 1 by have := hc.i0; simp only at this; omega]
 have hpeek := cur_peek cb p q l ⟨i, d, 0, 0⟩ hl hc
 rw [peek_at (c := ⟨i, d, 0, 0⟩) rfl ht] at hpeek
 have hent := rr_enter rb cb p q l ⟨i, d, 0, 0⟩ m hl hc ⟨hm0, hm⟩
 rw [show entB ⟨i, d, 0, 0⟩ m = true by unfold entB; simp [h4]; omega, show entC l ⟨i, d, 0, 0⟩ m = ⟨i, d + 1, 0, 0⟩ by unfold entC; rw [if_neg (by simp only; omega), if_neg h4]] at hent
 have hc1 : CurOk l ⟨i, d + 1, 0, 0⟩ := ⟨hc.i0, hc.i1, by simp only; omega, by simp only; omega⟩
 obtain ⟨hmk1, hnx1⟩ := mark_at (c := ⟨i, d + 1, 0, 0⟩) (t := [123]) rfl ht
 obtain ⟨hmk2, hnx2⟩ := mark_at (c := ⟨i, d + 1, 0, 0⟩) (t := [91]) rfl ht
 have hk123 := cur_mark cb p q l ⟨i, d + 1, 0, 0⟩ hl hc1 [123]
 have hk91 := cur_mark cb p q l ⟨i, d + 1, 0, 0⟩ hl hc1 [91]
 rw [hmk1] at hk123
 rw [hmk2] at hk91
 simp only at hk123 hk91 hnx1 hnx2
 rw [hA] at hk123
 rw [hB] at hk91
 rw [show goT l ⟨i, d + 1, 0, 0⟩ false = ⟨i, d + 1, 0, 0⟩ from rfl] at hk123 hk91
 have hnx := next_at (c := ⟨i, d + 1, 0, 0⟩) rfl ht (by omega)
 have hnext := cur_next cb p q l ⟨i, d + 1, 0, 0⟩ hl hc1
 have hc2 := hc1.next hl
 rw [peek_at (c := ⟨i, d + 1, 0, 0⟩) rfl ht] at hnext
 rw [hnx] at hnext hc2
 simp only at hnext hc2
 have hlv := cur_leave cb p q l ⟨i + 1, d + 1, 0, 0⟩ hc2
 rw [leave_d (i + 1) d 0 0 d0] at hlv
 have hbr : valR (k + 1) (l.drop i.toNat) m = .ok (.mk 3 t.2.1 0 t.2.2.2.1 [] []) (l.drop (i + 1).toNat) (m + 1) := by
  rw [← htl', ← hh]; simp only [valR]; rw [if_neg h4, if_neg (by rw [hA]; decide), if_neg (by rw [hB]; decide), if_neg (by rw [hh]; omega), if_pos (by rw [hh]; exact t3)]
 have hst2 : stR l ⟨i, d, 0, 0⟩ m = .ok (.mk 3 t.2.1 0 t.2.2.2.1 [] []) (l.drop (i + 1).toNat) (m + 1) := by rw [hst, hbr]
 have hVP := vp_ok (rb := rb) (cb := cb) (p := p) (q := q) hst2 (.mk 3 t.2.1 0 t.2.2.2.1 none 0 [] none 0 []) rfl rfl (by omega) (curOk_down hc2 d0) (by omega) (by omega)
 refine sy_enterE rfl rfl (fun w => ?_)
 simp only [initFr, rrE, curE, List.cons_append, List.nil_append]
 repeat (first | refine sy_k rfl rfl ?_ | (refine gO ?_; first | refine sy_ov (ov_p rfl) rfl rfl ?_ | (refine gL ?_; refine sy_ov (ov_ld 3 rfl rfl rfl) rfl rfl ?_) | refine sy_ov (ov_fieldAddr rfl rfl rfl) rfl rfl ?_ | (refine sy_alloc rfl rfl rfl ?_; intro _)))
 refine sy_order [1, 2, 3, 0] rfl rfl ?_
 simp only [List.set_cons_zero, List.set_cons_succ, List.filterMap_cons, List.filterMap_nil, List.getElem?_cons_zero, List.getElem?_cons_succ]
 refine sy_callE (curE cb p q l _) rfl rfl rfl (hpeek) ?_
 rintro _ _ ⟨rfl, rfl⟩
 simp only [curE, List.cons_append, List.nil_append]
 repeat (first | refine sy_k rfl rfl ?_ | (refine gO ?_; first | refine sy_ov (ov_p rfl) rfl rfl ?_ | (refine gL ?_; refine sy_ov (ov_ld 0 rfl rfl rfl) rfl rfl ?_) | (refine gS ?_; refine sy_store 0 rfl rfl rfl rfl rfl rfl rfl rfl ?_) | refine sy_ov (ov_fieldAddr rfl rfl rfl) rfl rfl ?_ | refine sy_ov (ov_build rfl rfl rfl) rfl rfl ?_ | (refine sy_alloc rfl rfl rfl ?_; intro _)))
 rename_i b2 b3 b4
 refine sy_order [2, 3, 4, 0, 1, 5] rfl rfl ?_
 simp only [List.set_cons_zero, List.set_cons_succ, List.filterMap_cons, List.filterMap_nil, List.getElem?_cons_zero, List.getElem?_cons_succ]
 refine sy_callE (rrE rb cb p q l _ m) rfl rfl rfl hent ?_
 rintro _ _ ⟨rfl, rfl⟩
 simp only [rrE, curE, List.cons_append, List.nil_append]
 repeat (first | refine sy_k rfl rfl ?_ | (refine gO ?_; first | refine sy_ov (ov_p rfl) rfl rfl ?_ | (refine gL ?_; refine sy_ov (ov_ld 2 rfl rfl rfl) rfl rfl ?_) | refine sy_ov (ov_fieldAddr rfl rfl rfl) rfl rfl ?_) | (refine sy_cond_f rfl ?_ ?_; (first | with_reducible rfl | assumption | omega | (simp <;> first | omega | assumption))))
 refine sy_callE (curE cb p q l _) rfl rfl rfl (hk123) ?_
 rintro _ _ ⟨rfl, rfl⟩
 simp only [curE, List.cons_append, List.nil_append]
 repeat (first | refine sy_k rfl rfl ?_ | (refine gO ?_; first | refine sy_ov (ov_p rfl) rfl rfl ?_ | (refine gL ?_; refine sy_ov (ov_ld 2 rfl rfl rfl) rfl rfl ?_) | refine sy_ov (ov_fieldAddr rfl rfl rfl) rfl rfl ?_) | (refine sy_cond_f rfl ?_ ?_; (first | with_reducible rfl | assumption | omega | (simp <;> first | omega | assumption))))
 refine sy_callE (curE cb p q l _) rfl rfl rfl (hk91) ?_
 rintro _ _ ⟨rfl, rfl⟩
 simp only [curE, List.cons_append, List.nil_append]
 repeat (first | refine sy_k rfl rfl ?_ | (refine gO ?_; first | refine sy_ov (ov_p rfl) rfl rfl ?_ | (refine gL ?_; first | refine sy_ov (ov_ld 2 rfl rfl rfl) rfl rfl ?_ | refine sy_ov (ov_ld 4 rfl rfl rfl) rfl rfl ?_) | refine sy_ov (ov_fieldAddr rfl rfl rfl) rfl rfl ?_) | (refine sy_cond_t rfl ?_ ?_; (first | with_reducible rfl | assumption | omega | (simp <;> first | omega | assumption))) | (refine sy_cond_f rfl ?_ ?_; (first | with_reducible rfl | assumption | omega | (simp <;> first | omega | assumption))))
 refine sy_callE (curE cb p q l _) rfl rfl rfl (hnext) ?_
 rintro _ _ ⟨rfl, rfl⟩
 simp only [curE, List.cons_append, List.nil_append]
 repeat (first | refine sy_k rfl rfl ?_ | (refine gO ?_; first | refine sy_ov (ov_p rfl) rfl rfl ?_ | (refine gL ?_; refine sy_ov (ov_ld 2 rfl rfl rfl) rfl rfl ?_) | (refine gS ?_; refine sy_store 3 rfl rfl rfl rfl rfl rfl rfl rfl ?_) | refine sy_ov (ov_fieldAddr rfl rfl rfl) rfl rfl ?_ | refine sy_ov (ov_field rfl rfl rfl) rfl rfl ?_))
 refine sy_callE (curE cb p q l _) rfl rfl rfl (hlv) ?_
 rintro _ _ ⟨rfl, rfl⟩
 simp only [curE, List.cons_append, List.nil_append]
 refine sy_rawNil ?_
 refine sy_grow 26 6 ?_
 refine sy_grow 36 2 ?_
 refine sy_rawMk (pk := none) (ck := 0) (keys := []) (p := none) (c := 0) (kids := []) 3 t.2.1 0 t.2.2.2.1 ?_
 refine sy_order [1, 2, 3, 4, 6, 0, 5] rfl rfl ?_
 simp only [List.set_cons_zero, List.set_cons_succ, List.filterMap_cons, List.filterMap_nil, List.getElem?_cons_zero, List.getElem?_cons_succ]
 repeat (first | refine sy_k rfl rfl ?_ | (refine gO ?_; first | (refine gL ?_; refine sy_ov (ov_ld 3 rfl rfl rfl) rfl rfl ?_) | (refine gS ?_; refine sy_store 4 rfl rfl rfl rfl rfl rfl rfl rfl ?_)) | refine sy_rt ?_)
 refine ret1cw 4 rfl rfl rfl rfl rfl fun w' hw' => ?_
 exact postE hw' _ (sub_self (by simp only [rrE, curE, List.cons_append, List.nil_append]; exact sk (sk (sk (sd (sd (sk (List.nil_sublist _)))))))) rfl hVP
set_option maxRecDepth 20000 in
set_option maxHeartbeats 8000000 in
theorem val_word (rb cb : Nat) (p : Option Addr) (q : Nat) (l : List TokT) (i d m : Int) (hl : TokOk l) (hli : TokI l) (hc : CurOk l ⟨i, d, 0, 0⟩) (h24 : d < 24) (h4 : m ≠ 4096) (hv1 : ValSpec (d + 1)) (hm0 : 0 ≤ m) (hm : m ≤ 4096) {t : TokT} (ht : l[i.toNat]? = some t)
 (hA : mkB (l.drop i.toNat) [123] = false) (hB : mkB (l.drop i.toNat) [91] = false) (t1 : t.1 = 1) :
 CallsE Tryz.prog 19 [ptr rb] (rrE rb cb p q l ⟨i, d, 0, 0⟩ m) (VP rb cb p q l ⟨i, d, 0, 0⟩ m) := by
 have d0 := hc.d0
 simp only at d0
 obtain ⟨k, hk⟩ : ∃ k, (24 - (d + 1)).toNat = k := ⟨_, rfl⟩
 have hk1 : (24 - d).toNat = k + 1 := by omega
 have hst : stR l ⟨i, d, 0, 0⟩ m = valR (k + 1) (l.drop i.toNat) m := by unfold stR; rw [if_neg (fun h => h rfl)]; simp only [hk1]
 obtain ⟨hh, htl⟩ := hdT_at ht
 have htl' : (l.drop i.toNat).tail = l.drop (i + 1).toNat := by rw [htl, show (i + 1).toNat = i.toNat + 1 by have := hc.i0; simp only at this; omega]
 have hpeek := cur_peek cb p q l ⟨i, d, 0, 0⟩ hl hc
 rw [peek_at (c := ⟨i, d, 0, 0⟩) rfl ht] at hpeek
 have hent := rr_enter rb cb p q l ⟨i, d, 0, 0⟩ m hl hc ⟨hm0, hm⟩
 rw [show entB ⟨i, d, 0, 0⟩ m = true by unfold entB; simp [h4]; omega, show entC l ⟨i, d, 0, 0⟩ m = ⟨i, d + 1, 0, 0⟩ by unfold entC; rw [if_neg (by simp only; omega), if_neg h4]] at hent
 have hc1 : CurOk l ⟨i, d + 1, 0, 0⟩ := ⟨hc.i0, hc.i1, by simp only; omega, by simp only; omega⟩
 obtain ⟨hmk1, hnx1⟩ := mark_at (c := ⟨i, d + 1, 0, 0⟩) (t := [123]) rfl ht
 obtain ⟨hmk2, hnx2⟩ := mark_at (c := ⟨i, d + 1, 0, 0⟩) (t := [91]) rfl ht
 have hk123 := cur_mark cb p q l ⟨i, d + 1, 0, 0⟩ hl hc1 [123]
 have hk91 := cur_mark cb p q l ⟨i, d + 1, 0, 0⟩ hl hc1 [91]
 rw [hmk1] at hk123
 rw [hmk2] at hk91
 simp only at hk123 hk91 hnx1 hnx2
 rw [hA] at hk123
 rw [hB] at hk91
 rw [show goT l ⟨i, d + 1, 0, 0⟩ false = ⟨i, d + 1, 0, 0⟩ from rfl] at hk123 hk91
 have hnx := next_at (c := ⟨i, d + 1, 0, 0⟩) rfl ht (by omega)
 have hnext := cur_next cb p q l ⟨i, d + 1, 0, 0⟩ hl hc1
 have hc2 := hc1.next hl
 rw [peek_at (c := ⟨i, d + 1, 0, 0⟩) rfl ht] at hnext
 rw [hnx] at hnext hc2
 simp only at hnext hc2
 obtain ⟨R, hRR⟩ : ∃ R, wordR (valR k) t.2.1 t.2.2.2.1 (l.drop (i + 1).toNat) (m + 1) = R := ⟨_, rfl⟩
 have hbr : valR (k + 1) (l.drop i.toNat) m = R := by
  rw [← hRR, ← htl', ← hh]; unfold wordR; simp only [valR]; rw [if_neg h4, if_neg (by rw [hA]; decide), if_neg (by rw [hB]; decide), if_neg (by rw [hh]; omega), if_neg (by rw [hh]; omega), if_pos (by rw [hh]; exact t1)]
 have hrec := fun vb => word_c rb cb p q l (i + 1) (d + 1) (m + 1) vb t.2.1 t.2.2.2.1 hv1 hl hli hc2 (by omega) (by omega)
 rw [hk, hRR] at hrec
 cases R with
 | ok v l' m' =>
  have hst2 : stR l ⟨i, d, 0, 0⟩ m = .ok v l' m' := by rw [hst, hbr]
  refine sy_enterE rfl rfl (fun w => ?_)
  simp only [initFr, rrE, curE, List.cons_append, List.nil_append]
  repeat (first | refine sy_k rfl rfl ?_ | (refine gO ?_; first | refine sy_ov (ov_p rfl) rfl rfl ?_ | (refine gL ?_; refine sy_ov (ov_ld 3 rfl rfl rfl) rfl rfl ?_) | refine sy_ov (ov_fieldAddr rfl rfl rfl) rfl rfl ?_ | (refine sy_alloc rfl rfl rfl ?_; intro _)))
  refine sy_order [1, 2, 3, 0] rfl rfl ?_
  simp only [List.set_cons_zero, List.set_cons_succ, List.filterMap_cons, List.filterMap_nil, List.getElem?_cons_zero, List.getElem?_cons_succ]
  refine sy_callE (curE cb p q l _) rfl rfl rfl (hpeek) ?_
  rintro _ _ ⟨rfl, rfl⟩
  simp only [curE, List.cons_append, List.nil_append]
  repeat (first | refine sy_k rfl rfl ?_ | (refine gO ?_; first | refine sy_ov (ov_p rfl) rfl rfl ?_ | (refine gL ?_; refine sy_ov (ov_ld 0 rfl rfl rfl) rfl rfl ?_) | (refine gS ?_; refine sy_store 0 rfl rfl rfl rfl rfl rfl rfl rfl ?_) | refine sy_ov (ov_fieldAddr rfl rfl rfl) rfl rfl ?_ | refine sy_ov (ov_build rfl rfl rfl) rfl rfl ?_ | (refine sy_alloc rfl rfl rfl ?_; intro _)))
  rename_i b2 b3 b4
  refine sy_order [2, 3, 4, 0, 1, 5] rfl rfl ?_
  simp only [List.set_cons_zero, List.set_cons_succ, List.filterMap_cons, List.filterMap_nil, List.getElem?_cons_zero, List.getElem?_cons_succ]
  refine sy_callE (rrE rb cb p q l _ m) rfl rfl rfl hent ?_
  rintro _ _ ⟨rfl, rfl⟩
  simp only [rrE, curE, List.cons_append, List.nil_append]
  repeat (first | refine sy_k rfl rfl ?_ | (refine gO ?_; first | refine sy_ov (ov_p rfl) rfl rfl ?_ | (refine gL ?_; refine sy_ov (ov_ld 2 rfl rfl rfl) rfl rfl ?_) | refine sy_ov (ov_fieldAddr rfl rfl rfl) rfl rfl ?_) | (refine sy_cond_f rfl ?_ ?_; (first | with_reducible rfl | assumption | omega | (simp <;> first | omega | assumption))))
  refine sy_callE (curE cb p q l _) rfl rfl rfl (hk123) ?_
  rintro _ _ ⟨rfl, rfl⟩
  simp only [curE, List.cons_append, List.nil_append]
  repeat (first | refine sy_k rfl rfl ?_ | (refine gO ?_; first | refine sy_ov (ov_p rfl) rfl rfl ?_ | (refine gL ?_; refine sy_ov (ov_ld 2 rfl rfl rfl) rfl rfl ?_) | refine sy_ov (ov_fieldAddr rfl rfl rfl) rfl rfl ?_) | (refine sy_cond_f rfl ?_ ?_; (first | with_reducible rfl | assumption | omega | (simp <;> first | omega | assumption))))
  refine sy_callE (curE cb p q l _) rfl rfl rfl (hk91) ?_
  rintro _ _ ⟨rfl, rfl⟩
  simp only [curE, List.cons_append, List.nil_append]
  repeat (first | refine sy_k rfl rfl ?_ | (refine gO ?_; first | refine sy_ov (ov_p rfl) rfl rfl ?_ | (refine gL ?_; first | refine sy_ov (ov_ld 2 rfl rfl rfl) rfl rfl ?_ | refine sy_ov (ov_ld 4 rfl rfl rfl) rfl rfl ?_) | refine sy_ov (ov_fieldAddr rfl rfl rfl) rfl rfl ?_) | (refine sy_cond_t rfl ?_ ?_; (first | with_reducible rfl | assumption | omega | (simp <;> first | omega | assumption))) | (refine sy_cond_f rfl ?_ ?_; (first | with_reducible rfl | assumption | omega | (simp <;> first | omega | assumption))))
  refine sy_callE (curE cb p q l _) rfl rfl rfl (hnext) ?_
  rintro _ _ ⟨rfl, rfl⟩
  simp only [curE, List.cons_append, List.nil_append]
  repeat (first | refine sy_k rfl rfl ?_ | (refine gO ?_; first | refine sy_ov (ov_p rfl) rfl rfl ?_ | (refine gS ?_; refine sy_store 3 rfl rfl rfl rfl rfl rfl rfl rfl ?_) | refine sy_ov (ov_fieldAddr rfl rfl rfl) rfl rfl ?_ | refine sy_ov (ov_field rfl rfl rfl) rfl rfl ?_))
  refine sy_callE (rrE rb cb p q l ⟨i + 1, d + 1, 0, 0⟩ (m + 1) ++ [blk b4 26 (vS 0 t.2.1 t.2.2.2.1 [] none 0)]) rfl rfl rfl (hrec b4) ?_
  intro u es' hV
  simp only [WP] at hV
  obtain ⟨rfl, i', k', zs, pz, cz, rfl, hz, hl', hlt, hc', hm0', hm1'⟩ := hV
  have hlv := cur_leave cb p q l ⟨i', d + 1, 0, 0⟩ hc'
  rw [leave_d i' d 0 0 d0] at hlv
  have hVP := vp_ok (rb := rb) (cb := cb) (p := p) (q := q) hst2 (.mk k' t.2.1 0 t.2.2.2.1 none 0 [] pz cz zs) (by rw [← hz]; rfl) hl' (by omega) (curOk_down hc' d0) hm0' hm1'
  simp only [rrE, wE, curE, List.cons_append, List.nil_append]
  refine sy_grow 36 2 ?_
  refine sy_order [0, 5, 6, 1, 2, 3, 4, 8, 7] rfl rfl ?_
  simp only [List.set_cons_zero, List.set_cons_succ, List.filterMap_cons, List.filterMap_nil, List.getElem?_cons_zero, List.getElem?_cons_succ]
  refine sy_rawMk (pk := none) (ck := 0) (keys := []) k' t.2.1 0 t.2.2.2.1 ?_
  refine sy_order [1, 2, 3, 4, 5, 0, 6] rfl rfl ?_
  simp only [List.set_cons_zero, List.set_cons_succ, List.filterMap_cons, List.filterMap_nil, List.getElem?_cons_zero, List.getElem?_cons_succ]
  repeat (first | refine sy_k rfl rfl ?_ | (refine gO ?_; first | refine sy_ov (ov_p rfl) rfl rfl ?_ | (refine gL ?_; refine sy_ov (ov_ld 2 rfl rfl rfl) rfl rfl ?_) | refine sy_ov (ov_fieldAddr rfl rfl rfl) rfl rfl ?_))
  refine sy_callE (curE cb p q l _) rfl rfl rfl (hlv) ?_
  rintro _ _ ⟨rfl, rfl⟩
  simp only [curE, List.cons_append, List.nil_append]
  repeat (first | refine sy_k rfl rfl ?_ | (refine gO ?_; first | (refine gL ?_; refine sy_ov (ov_ld 3 rfl rfl rfl) rfl rfl ?_) | (refine gS ?_; refine sy_store 4 rfl rfl rfl rfl rfl rfl rfl rfl ?_)) | refine sy_rt ?_)
  refine ret1cw 4 rfl rfl rfl rfl rfl fun w' hw' => ?_
  exact postE hw' _ (sub_self (by simp only [rrE, curE, List.cons_append, List.nil_append]; exact sk (sk (sk (sd (sd (sk (List.nil_sublist _)))))))) rfl hVP
 | bad e' a' =>
  have hst2 : stR l ⟨i, d, 0, 0⟩ m = .bad e' a' := by rw [hst, hbr]
  refine sy_enterE rfl rfl (fun w => ?_)
  simp only [initFr, rrE, curE, List.cons_append, List.nil_append]
  repeat (first | refine sy_k rfl rfl ?_ | (refine gO ?_; first | refine sy_ov (ov_p rfl) rfl rfl ?_ | (refine gL ?_; refine sy_ov (ov_ld 3 rfl rfl rfl) rfl rfl ?_) | refine sy_ov (ov_fieldAddr rfl rfl rfl) rfl rfl ?_ | (refine sy_alloc rfl rfl rfl ?_; intro _)))
  refine sy_order [1, 2, 3, 0] rfl rfl ?_
  simp only [List.set_cons_zero, List.set_cons_succ, List.filterMap_cons, List.filterMap_nil, List.getElem?_cons_zero, List.getElem?_cons_succ]
  refine sy_callE (curE cb p q l _) rfl rfl rfl (hpeek) ?_
  rintro _ _ ⟨rfl, rfl⟩
  simp only [curE, List.cons_append, List.nil_append]
  repeat (first | refine sy_k rfl rfl ?_ | (refine gO ?_; first | refine sy_ov (ov_p rfl) rfl rfl ?_ | (refine gL ?_; refine sy_ov (ov_ld 0 rfl rfl rfl) rfl rfl ?_) | (refine gS ?_; refine sy_store 0 rfl rfl rfl rfl rfl rfl rfl rfl ?_) | refine sy_ov (ov_fieldAddr rfl rfl rfl) rfl rfl ?_ | refine sy_ov (ov_build rfl rfl rfl) rfl rfl ?_ | (refine sy_alloc rfl rfl rfl ?_; intro _)))
  rename_i b2 b3 b4
  refine sy_order [2, 3, 4, 0, 1, 5] rfl rfl ?_
  simp only [List.set_cons_zero, List.set_cons_succ, List.filterMap_cons, List.filterMap_nil, List.getElem?_cons_zero, List.getElem?_cons_succ]
  refine sy_callE (rrE rb cb p q l _ m) rfl rfl rfl hent ?_
  rintro _ _ ⟨rfl, rfl⟩
  simp only [rrE, curE, List.cons_append, List.nil_append]
  repeat (first | refine sy_k rfl rfl ?_ | (refine gO ?_; first | refine sy_ov (ov_p rfl) rfl rfl ?_ | (refine gL ?_; refine sy_ov (ov_ld 2 rfl rfl rfl) rfl rfl ?_) | refine sy_ov (ov_fieldAddr rfl rfl rfl) rfl rfl ?_) | (refine sy_cond_f rfl ?_ ?_; (first | with_reducible rfl | assumption | omega | (simp <;> first | omega | assumption))))
  refine sy_callE (curE cb p q l _) rfl rfl rfl (hk123) ?_
  rintro _ _ ⟨rfl, rfl⟩
  simp only [curE, List.cons_append, List.nil_append]
  repeat (first | refine sy_k rfl rfl ?_ | (refine gO ?_; first | refine sy_ov (ov_p rfl) rfl rfl ?_ | (refine gL ?_; refine sy_ov (ov_ld 2 rfl rfl rfl) rfl rfl ?_) | refine sy_ov (ov_fieldAddr rfl rfl rfl) rfl rfl ?_) | (refine sy_cond_f rfl ?_ ?_; (first | with_reducible rfl | assumption | omega | (simp <;> first | omega | assumption))))
  refine sy_callE (curE cb p q l _) rfl rfl rfl (hk91) ?_
  rintro _ _ ⟨rfl, rfl⟩
  simp only [curE, List.cons_append, List.nil_append]
  repeat (first | refine sy_k rfl rfl ?_ | (refine gO ?_; first | refine sy_ov (ov_p rfl) rfl rfl ?_ | (refine gL ?_; first | refine sy_ov (ov_ld 2 rfl rfl rfl) rfl rfl ?_ | refine sy_ov (ov_ld 4 rfl rfl rfl) rfl rfl ?_) | refine sy_ov (ov_fieldAddr rfl rfl rfl) rfl rfl ?_) | (refine sy_cond_t rfl ?_ ?_; (first | with_reducible rfl | assumption | omega | (simp <;> first | omega | assumption))) | (refine sy_cond_f rfl ?_ ?_; (first | with_reducible rfl | assumption | omega | (simp <;> first | omega | assumption))))
  refine sy_callE (curE cb p q l _) rfl rfl rfl (hnext) ?_
  rintro _ _ ⟨rfl, rfl⟩
  simp only [curE, List.cons_append, List.nil_append]
  repeat (first | refine sy_k rfl rfl ?_ | (refine gO ?_; first | refine sy_ov (ov_p rfl) rfl rfl ?_ | (refine gS ?_; refine sy_store 3 rfl rfl rfl rfl rfl rfl rfl rfl ?_) | refine sy_ov (ov_fieldAddr rfl rfl rfl) rfl rfl ?_ | refine sy_ov (ov_field rfl rfl rfl) rfl rfl ?_))
  refine sy_callE (rrE rb cb p q l ⟨i + 1, d + 1, 0, 0⟩ (m + 1) ++ [blk b4 26 (vS 0 t.2.1 t.2.2.2.1 [] none 0)]) rfl rfl rfl (hrec b4) ?_
  intro u es' hV
  simp only [WP] at hV
  obtain ⟨rfl, c', m', cs, rfl, hc6, hone, hB', hm0', hm1'⟩ := hV
  have hlv := cur_leave cb p q l c' hB'.ok
  have hVP := vp_bad (rb := rb) (cb := cb) (p := p) (q := q) hst2 hB'.leave hm0' hm1'
  obtain ⟨c0, c1, c2, c3, c4, c5, rfl⟩ := six hc6
  simp only [rrE, curE, List.cons_append, List.nil_append]
  refine sy_order [0, 1, 2, 3, 5, 4] rfl rfl ?_
  simp only [List.set_cons_zero, List.set_cons_succ, List.filterMap_cons, List.filterMap_nil, List.getElem?_cons_zero, List.getElem?_cons_succ]
  repeat (first | refine sy_k rfl rfl ?_ | (refine gO ?_; first | refine sy_ov (ov_p rfl) rfl rfl ?_ | (refine gL ?_; refine sy_ov (ov_ld 2 rfl rfl rfl) rfl rfl ?_) | refine sy_ov (ov_fieldAddr rfl rfl rfl) rfl rfl ?_))
  refine sy_callE (curE cb p q l _) rfl rfl rfl (hlv) ?_
  rintro _ _ ⟨rfl, rfl⟩
  simp only [curE, List.cons_append, List.nil_append]
  repeat (first | refine sy_k rfl rfl ?_ | (refine gO ?_; (refine gL ?_; refine sy_ov (ov_ld 3 rfl rfl rfl) rfl rfl ?_)))
  refine sy_store 4 rfl rfl rfl rfl rfl hone rfl rfl ?_
  repeat (first | refine sy_k rfl rfl ?_ | refine sy_rt ?_)
  refine ret1cw 4 rfl rfl rfl rfl rfl fun w' hw' => ?_
  exact postE hw' _ (sub_self (by simp only [rrE, curE, List.cons_append, List.nil_append]; exact sk (sk (sk (List.nil_sublist _))))) rfl (hVP _ rfl hone)
set_option maxRecDepth 20000 in
set_option maxHeartbeats 8000000 in
theorem val_odd (rb cb : Nat) (p : Option Addr) (q : Nat) (l : List TokT) (i d m : Int) (hl : TokOk l) (hli : TokI l) (hc : CurOk l ⟨i, d, 0, 0⟩) (h24 : d < 24) (h4 : m ≠ 4096) (hv1 : ValSpec (d + 1)) (hm0 : 0 ≤ m) (hm : m ≤ 4096) {t : TokT} (ht : l[i.toNat]? = some t)
 (hA : mkB (l.drop i.toNat) [123] = false) (hB : mkB (l.drop i.toNat) [91] = false) (n1 : t.1 ≠ 1) (n2 : t.1 ≠ 2) (n3 : t.1 ≠ 3) :
 CallsE Tryz.prog 19 [ptr rb] (rrE rb cb p q l ⟨i, d, 0, 0⟩ m) (VP rb cb p q l ⟨i, d, 0, 0⟩ m) := by
 have d0 := hc.d0
 simp only at d0
 obtain ⟨k, hk⟩ : ∃ k, (24 - (d + 1)).toNat = k := ⟨_, rfl⟩
 have hk1 : (24 - d).toNat = k + 1 := by omega
 have hst : stR l ⟨i, d, 0, 0⟩ m = valR (k + 1) (l.drop i.toNat) m := by unfold stR; rw [if_neg (fun h => h rfl)]; simp only [hk1]
 obtain ⟨hh, htl⟩ := hdT_at ht
 have htl' : (l.drop i.toNat).tail = l.drop (i + 1).toNat := by rw [htl, show (i + 1).toNat = i.toNat + 1 by have := hc.i0; simp only at this; omega]
 have hpeek := cur_peek cb p q l ⟨i, d, 0, 0⟩ hl hc
 rw [peek_at (c := ⟨i, d, 0, 0⟩) rfl ht] at hpeek
 have hent := rr_enter rb cb p q l ⟨i, d, 0, 0⟩ m hl hc ⟨hm0, hm⟩
 rw [show entB ⟨i, d, 0, 0⟩ m = true by unfold entB; simp [h4]; omega, show entC l ⟨i, d, 0, 0⟩ m = ⟨i, d + 1, 0, 0⟩ by unfold entC; rw [if_neg (by simp only; omega), if_neg h4]] at hent
 have hc1 : CurOk l ⟨i, d + 1, 0, 0⟩ := ⟨hc.i0, hc.i1, by simp only; omega, by simp only; omega⟩
 obtain ⟨hmk1, hnx1⟩ := mark_at (c := ⟨i, d + 1, 0, 0⟩) (t := [123]) rfl ht
 obtain ⟨hmk2, hnx2⟩ := mark_at (c := ⟨i, d + 1, 0, 0⟩) (t := [91]) rfl ht
 have hk123 := cur_mark cb p q l ⟨i, d + 1, 0, 0⟩ hl hc1 [123]
 have hk91 := cur_mark cb p q l ⟨i, d + 1, 0, 0⟩ hl hc1 [91]
 rw [hmk1] at hk123
 rw [hmk2] at hk91
 simp only at hk123 hk91 hnx1 hnx2
 rw [hA] at hk123
 rw [hB] at hk91
 rw [show goT l ⟨i, d + 1, 0, 0⟩ false = ⟨i, d + 1, 0, 0⟩ from rfl] at hk123 hk91
 have hbr : valR (k + 1) (l.drop i.toNat) m = .bad (oddE t).1 t.2.1 := by
  simp only [valR]; rw [if_neg h4, if_neg (by rw [hA]; decide), if_neg (by rw [hB]; decide), if_neg (by rw [hh]; exact n2), if_neg (by rw [hh]; exact n3), if_neg (by rw [hh]; exact n1)]
  unfold oddR; rw [hh]; rfl
 have hst2 : stR l ⟨i, d, 0, 0⟩ m = .bad (oddE t).1 t.2.1 := by rw [hst, hbr]
 have hwr := rr_wrong rb cb p q l ⟨i, d + 1, 0, 0⟩ (m + 1) hl hc1
 rw [wrong_at (c := ⟨i, d + 1, 0, 0⟩) rfl ht] at hwr
 have hc2 : CurOk l ⟨i, d + 1, (oddE t).1, t.2.1⟩ := hc1.at hc1.i0 hc1.i1 rfl
 have hlv := cur_leave cb p q l ⟨i, d + 1, (oddE t).1, t.2.1⟩ hc2
 rw [leave_d i d _ _ d0] at hlv
 have hVP := vp_bad (rb := rb) (cb := cb) (p := p) (q := q) (m' := m + 1) hst2 ⟨hc.at hc.i0 hc.i1 rfl, oddE_ne t, rfl, rfl⟩ (by omega) (by omega)
 refine sy_enterE rfl rfl (fun w => ?_)
 simp only [initFr, rrE, curE, List.cons_append, List.nil_append]
 repeat (first | refine sy_k rfl rfl ?_ | (refine gO ?_; first | refine sy_ov (ov_p rfl) rfl rfl ?_ | (refine gL ?_; refine sy_ov (ov_ld 3 rfl rfl rfl) rfl rfl ?_) | refine sy_ov (ov_fieldAddr rfl rfl rfl) rfl rfl ?_ | (refine sy_alloc rfl rfl rfl ?_; intro _)))
 refine sy_order [1, 2, 3, 0] rfl rfl ?_
 simp only [List.set_cons_zero, List.set_cons_succ, List.filterMap_cons, List.filterMap_nil, List.getElem?_cons_zero, List.getElem?_cons_succ]
 refine sy_callE (curE cb p q l _) rfl rfl rfl (hpeek) ?_
 rintro _ _ ⟨rfl, rfl⟩
 simp only [curE, List.cons_append, List.nil_append]
 repeat (first | refine sy_k rfl rfl ?_ | (refine gO ?_; first | refine sy_ov (ov_p rfl) rfl rfl ?_ | (refine gL ?_; refine sy_ov (ov_ld 0 rfl rfl rfl) rfl rfl ?_) | (refine gS ?_; refine sy_store 0 rfl rfl rfl rfl rfl rfl rfl rfl ?_) | refine sy_ov (ov_fieldAddr rfl rfl rfl) rfl rfl ?_ | refine sy_ov (ov_build rfl rfl rfl) rfl rfl ?_ | (refine sy_alloc rfl rfl rfl ?_; intro _)))
 rename_i b2 b3 b4
 refine sy_order [2, 3, 4, 0, 1, 5] rfl rfl ?_
 simp only [List.set_cons_zero, List.set_cons_succ, List.filterMap_cons, List.filterMap_nil, List.getElem?_cons_zero, List.getElem?_cons_succ]
 refine sy_callE (rrE rb cb p q l _ m) rfl rfl rfl hent ?_
 rintro _ _ ⟨rfl, rfl⟩
 simp only [rrE, curE, List.cons_append, List.nil_append]
 repeat (first | refine sy_k rfl rfl ?_ | (refine gO ?_; first | refine sy_ov (ov_p rfl) rfl rfl ?_ | (refine gL ?_; refine sy_ov (ov_ld 2 rfl rfl rfl) rfl rfl ?_) | refine sy_ov (ov_fieldAddr rfl rfl rfl) rfl rfl ?_) | (refine sy_cond_f rfl ?_ ?_; (first | with_reducible rfl | assumption | omega | (simp <;> first | omega | assumption))))
 refine sy_callE (curE cb p q l _) rfl rfl rfl (hk123) ?_
 rintro _ _ ⟨rfl, rfl⟩
 simp only [curE, List.cons_append, List.nil_append]
 repeat (first | refine sy_k rfl rfl ?_ | (refine gO ?_; first | refine sy_ov (ov_p rfl) rfl rfl ?_ | (refine gL ?_; refine sy_ov (ov_ld 2 rfl rfl rfl) rfl rfl ?_) | refine sy_ov (ov_fieldAddr rfl rfl rfl) rfl rfl ?_) | (refine sy_cond_f rfl ?_ ?_; (first | with_reducible rfl | assumption | omega | (simp <;> first | omega | assumption))))
 refine sy_callE (curE cb p q l _) rfl rfl rfl (hk91) ?_
 rintro _ _ ⟨rfl, rfl⟩
 simp only [curE, List.cons_append, List.nil_append]
 repeat (first | refine sy_k rfl rfl ?_ | (refine gO ?_; first | refine sy_ov (ov_p rfl) rfl rfl ?_ | (refine gL ?_; refine sy_ov (ov_ld 4 rfl rfl rfl) rfl rfl ?_) | refine sy_ov (ov_fieldAddr rfl rfl rfl) rfl rfl ?_) | (refine sy_cond_f rfl ?_ ?_; (first | with_reducible rfl | assumption | omega | (simp <;> first | omega | assumption))))
 refine sy_callE (rrE rb cb p q l ⟨i, d + 1, 0, 0⟩ (m + 1)) rfl rfl rfl hwr ?_
 rintro _ _ ⟨rfl, rfl⟩
 simp only [rrE, curE, List.cons_append, List.nil_append]
 refine sy_order [0, 1, 2, 3, 5, 4] rfl rfl ?_
 simp only [List.set_cons_zero, List.set_cons_succ, List.filterMap_cons, List.filterMap_nil, List.getElem?_cons_zero, List.getElem?_cons_succ]
 repeat (first | refine sy_k rfl rfl ?_ | (refine gO ?_; first | refine sy_ov (ov_p rfl) rfl rfl ?_ | (refine gL ?_; refine sy_ov (ov_ld 2 rfl rfl rfl) rfl rfl ?_) | refine sy_ov (ov_fieldAddr rfl rfl rfl) rfl rfl ?_))
 refine sy_callE (curE cb p q l _) rfl rfl rfl (hlv) ?_
 rintro _ _ ⟨rfl, rfl⟩
 simp only [curE, List.cons_append, List.nil_append]
 repeat (first | refine sy_k rfl rfl ?_ | (refine gO ?_; first | (refine gL ?_; refine sy_ov (ov_ld 3 rfl rfl rfl) rfl rfl ?_) | (refine gS ?_; refine sy_store 4 rfl rfl rfl rfl rfl rfl rfl rfl ?_)) | refine sy_rt ?_)
 exact ret1cw 4 rfl rfl rfl rfl rfl fun w' hw' => postE hw' _ (sub_self (by simp only [rrE, curE, List.cons_append, List.nil_append]; exact sk (sk (sk (List.nil_sublist _))))) rfl (hVP _ rfl rfl)
set_option maxRecDepth 20000 in
set_option maxHeartbeats 8000000 in
theorem val_no (rb cb : Nat) (p : Option Addr) (q : Nat) (l : List TokT) (i d m : Int) (hl : TokOk l) (hc : CurOk l ⟨i, d, 0, 0⟩) (hno : d = 24 ∨ m = 4096) (hm0 : 0 ≤ m) (hm : m ≤ 4096) {t : TokT} (ht : l[i.toNat]? = some t) :
 CallsE Tryz.prog 19 [ptr rb] (rrE rb cb p q l ⟨i, d, 0, 0⟩ m) (VP rb cb p q l ⟨i, d, 0, 0⟩ m) := by
 have d0 := hc.d0
 have d1 := hc.d1
 simp only at d0 d1
 obtain ⟨hh, htl⟩ := hdT_at ht
 have hpk := peek_at (c := ⟨i, d, 0, 0⟩) rfl ht
 have hpeek := cur_peek cb p q l ⟨i, d, 0, 0⟩ hl hc
 rw [hpk] at hpeek
 have hent := rr_enter rb cb p q l ⟨i, d, 0, 0⟩ m hl hc ⟨hm0, hm⟩
 by_cases h24 : d = 24
 · subst h24
   have hst2 : stR l ⟨i, 24, 0, 0⟩ m = .bad 6 t.2.1 := by unfold stR; rw [if_neg (fun h => h rfl)]; show valR 0 _ _ = _; simp only [valR, hh]
   have hfe : failT l ⟨i, 24, 0, 0⟩ 6 = ⟨i, 24, 6, t.2.1⟩ := by unfold failT failAtT; rw [hpk, if_pos ⟨rfl, by decide⟩]
   rw [show entB ⟨i, 24, 0, 0⟩ m = false by unfold entB; simp, show entC l ⟨i, 24, 0, 0⟩ m = ⟨i, 24, 6, t.2.1⟩ by unfold entC; rw [if_pos rfl, hfe]] at hent
   have hVP := vp_bad (rb := rb) (cb := cb) (p := p) (q := q) hst2 ⟨hc.at hc.i0 hc.i1 rfl, by decide, rfl, rfl⟩ hm0 hm
   refine sy_enterE rfl rfl (fun w => ?_)
   simp only [initFr, rrE, curE, List.cons_append, List.nil_append]
   repeat (first | refine sy_k rfl rfl ?_ | (refine gO ?_; first | refine sy_ov (ov_p rfl) rfl rfl ?_ | (refine gL ?_; refine sy_ov (ov_ld 3 rfl rfl rfl) rfl rfl ?_) | refine sy_ov (ov_fieldAddr rfl rfl rfl) rfl rfl ?_ | (refine sy_alloc rfl rfl rfl ?_; intro _)))
   refine sy_order [1, 2, 3, 0] rfl rfl ?_
   simp only [List.set_cons_zero, List.set_cons_succ, List.filterMap_cons, List.filterMap_nil, List.getElem?_cons_zero, List.getElem?_cons_succ]
   refine sy_callE (curE cb p q l _) rfl rfl rfl (hpeek) ?_
   rintro _ _ ⟨rfl, rfl⟩
   simp only [curE, List.cons_append, List.nil_append]
   repeat (first | refine sy_k rfl rfl ?_ | (refine gO ?_; first | refine sy_ov (ov_p rfl) rfl rfl ?_ | (refine gL ?_; refine sy_ov (ov_ld 0 rfl rfl rfl) rfl rfl ?_) | (refine gS ?_; refine sy_store 0 rfl rfl rfl rfl rfl rfl rfl rfl ?_) | refine sy_ov (ov_fieldAddr rfl rfl rfl) rfl rfl ?_ | refine sy_ov (ov_build rfl rfl rfl) rfl rfl ?_ | (refine sy_alloc rfl rfl rfl ?_; intro _)))
   rename_i b2 b3 b4
   refine sy_order [2, 3, 4, 0, 1, 5] rfl rfl ?_
   simp only [List.set_cons_zero, List.set_cons_succ, List.filterMap_cons, List.filterMap_nil, List.getElem?_cons_zero, List.getElem?_cons_succ]
   refine sy_callE (rrE rb cb p q l _ m) rfl rfl rfl hent ?_
   rintro _ _ ⟨rfl, rfl⟩
   simp only [rrE, curE, List.cons_append, List.nil_append]
   refine sy_order [0, 1, 2, 3, 5, 4] rfl rfl ?_
   simp only [List.set_cons_zero, List.set_cons_succ, List.filterMap_cons, List.filterMap_nil, List.getElem?_cons_zero, List.getElem?_cons_succ]
   repeat (first | refine sy_k rfl rfl ?_ | (refine gO ?_; first | refine sy_ov (ov_p rfl) rfl rfl ?_ | (refine gL ?_; refine sy_ov (ov_ld 3 rfl rfl rfl) rfl rfl ?_) | (refine gS ?_; refine sy_store 4 rfl rfl rfl rfl rfl rfl rfl rfl ?_)) | (refine sy_cond_t rfl ?_ ?_; (first | with_reducible rfl | assumption | omega | (simp <;> first | omega | assumption))) | refine sy_rt ?_)
   exact ret1cw 4 rfl rfl rfl rfl rfl fun w' hw' => postE hw' _ (sub_self (by simp only [rrE, curE, List.cons_append, List.nil_append]; exact sk (sk (sk (List.nil_sublist _))))) rfl (hVP _ rfl rfl)
 · have h4 : m = 4096 := hno.resolve_left h24
   obtain ⟨k, hk⟩ : ∃ k, (24 - (d + 1)).toNat = k := ⟨_, rfl⟩
   have hk1 : (24 - d).toNat = k + 1 := by omega
   have hst2 : stR l ⟨i, d, 0, 0⟩ m = .bad 8 t.2.1 := by unfold stR; rw [if_neg (fun h => h rfl)]; simp only [hk1, valR, hh]; rw [if_pos h4]
   have hpk1 := peek_at (c := ⟨i, d + 1, 0, 0⟩) rfl ht
   have hfe : failT l ⟨i, d + 1, 0, 0⟩ 8 = ⟨i, d + 1, 8, t.2.1⟩ := by unfold failT failAtT; rw [hpk1, if_pos ⟨rfl, by decide⟩]
   rw [show entB ⟨i, d, 0, 0⟩ m = false by unfold entB; simp [h4], show entC l ⟨i, d, 0, 0⟩ m = ⟨i, d + 1, 8, t.2.1⟩ by unfold entC; rw [if_neg h24, if_pos h4]; exact hfe] at hent
   have hVP := vp_bad (rb := rb) (cb := cb) (p := p) (q := q) (c' := ⟨i, d + 1, 8, t.2.1⟩) hst2 ⟨⟨hc.i0, hc.i1, by simp only; omega, by simp only; omega⟩, by decide, rfl, rfl⟩ hm0 hm
   refine sy_enterE rfl rfl (fun w => ?_)
   simp only [initFr, rrE, curE, List.cons_append, List.nil_append]
   repeat (first | refine sy_k rfl rfl ?_ | (refine gO ?_; first | refine sy_ov (ov_p rfl) rfl rfl ?_ | (refine gL ?_; refine sy_ov (ov_ld 3 rfl rfl rfl) rfl rfl ?_) | refine sy_ov (ov_fieldAddr rfl rfl rfl) rfl rfl ?_ | (refine sy_alloc rfl rfl rfl ?_; intro _)))
   refine sy_order [1, 2, 3, 0] rfl rfl ?_
   simp only [List.set_cons_zero, List.set_cons_succ, List.filterMap_cons, List.filterMap_nil, List.getElem?_cons_zero, List.getElem?_cons_succ]
   refine sy_callE (curE cb p q l _) rfl rfl rfl (hpeek) ?_
   rintro _ _ ⟨rfl, rfl⟩
   simp only [curE, List.cons_append, List.nil_append]
   repeat (first | refine sy_k rfl rfl ?_ | (refine gO ?_; first | refine sy_ov (ov_p rfl) rfl rfl ?_ | (refine gL ?_; refine sy_ov (ov_ld 0 rfl rfl rfl) rfl rfl ?_) | (refine gS ?_; refine sy_store 0 rfl rfl rfl rfl rfl rfl rfl rfl ?_) | refine sy_ov (ov_fieldAddr rfl rfl rfl) rfl rfl ?_ | refine sy_ov (ov_build rfl rfl rfl) rfl rfl ?_ | (refine sy_alloc rfl rfl rfl ?_; intro _)))
   rename_i b2 b3 b4
   refine sy_order [2, 3, 4, 0, 1, 5] rfl rfl ?_
   simp only [List.set_cons_zero, List.set_cons_succ, List.filterMap_cons, List.filterMap_nil, List.getElem?_cons_zero, List.getElem?_cons_succ]
   refine sy_callE (rrE rb cb p q l _ m) rfl rfl rfl hent ?_
   rintro _ _ ⟨rfl, rfl⟩
   simp only [rrE, curE, List.cons_append, List.nil_append]
   refine sy_order [0, 1, 2, 3, 5, 4] rfl rfl ?_
   simp only [List.set_cons_zero, List.set_cons_succ, List.filterMap_cons, List.filterMap_nil, List.getElem?_cons_zero, List.getElem?_cons_succ]
   repeat (first | refine sy_k rfl rfl ?_ | (refine gO ?_; first | refine sy_ov (ov_p rfl) rfl rfl ?_ | (refine gL ?_; refine sy_ov (ov_ld 3 rfl rfl rfl) rfl rfl ?_) | (refine gS ?_; refine sy_store 4 rfl rfl rfl rfl rfl rfl rfl rfl ?_)) | (refine sy_cond_t rfl ?_ ?_; (first | with_reducible rfl | assumption | omega | (simp <;> first | omega | assumption))) | refine sy_rt ?_)
   exact ret1cw 4 rfl rfl rfl rfl rfl fun w' hw' => postE hw' _ (sub_self (by simp only [rrE, curE, List.cons_append, List.nil_append]; exact sk (sk (sk (List.nil_sublist _))))) rfl (hVP _ rfl rfl)
theorem value_c : ∀ (n : Nat), n ≤ 24 → ValSpec (24 - n) := by
 intro n
 induction n with
 | zero =>
  intro _ rb cb p q l c m hl hli hc hcd ha hm0 hm
  obtain ⟨i, d, e, a⟩ := c
  simp only at hcd ha
  subst hcd
  by_cases he : e = 0
  · subst he
    have ha := ha rfl
    subst ha
    have i0 := hc.i0
    have i1 := hc.i1
    simp only at i0 i1
    exact val_no rb cb p q l i _ m hl hc (.inl (by omega)) hm0 hm (List.getElem?_eq_getElem (by omega))
  · exact val_bad rb cb p q l i _ e a m hl hc he hm0 hm
 | succ n ih =>
  intro hn rb cb p q l c m hl hli hc hcd ha hm0 hm
  obtain ⟨i, d, e, a⟩ := c
  simp only at hcd ha
  have hv1 : ValSpec (d + 1) := by have := ih (by omega); rw [show (24 : Int) - (n : Int) = d + 1 by omega] at this; exact this
  by_cases he : e = 0
  · subst he
    have ha := ha rfl
    subst ha
    have i0 := hc.i0
    have i1 := hc.i1
    simp only at i0 i1
    obtain ⟨t, ht⟩ : ∃ t, l[i.toNat]? = some t := ⟨_, List.getElem?_eq_getElem (by omega)⟩
    by_cases h4 : m = 4096
    · exact val_no rb cb p q l i d m hl hc (.inr h4) hm0 hm ht
    · have h24 : d < 24 := by omega
      by_cases hA : mkB (l.drop i.toNat) [123] = true
      · exact val_list true rb cb p q l i d m hl hli hc h24 h4 hv1 hm0 hm ht hA
      · have hA : mkB (l.drop i.toNat) [123] = false := by simpa using hA
        by_cases hB : mkB (l.drop i.toNat) [91] = true
        · exact val_list false rb cb p q l i d m hl hli hc h24 h4 hv1 hm0 hm ht ⟨hA, hB⟩
        · have hB : mkB (l.drop i.toNat) [91] = false := by simpa using hB
          by_cases n2 : t.1 = 2
          · exact val_int rb cb p q l i d m hl hli hc h24 h4 hv1 hm0 hm ht hA hB n2
          · by_cases n3 : t.1 = 3
            · exact val_text rb cb p q l i d m hl hli hc h24 h4 hv1 hm0 hm ht hA hB n3
            · by_cases n1 : t.1 = 1
              · exact val_word rb cb p q l i d m hl hli hc h24 h4 hv1 hm0 hm ht hA hB n1
              · exact val_odd rb cb p q l i d m hl hli hc h24 h4 hv1 hm0 hm ht hA hB n1 n2 n3
  · exact val_bad rb cb p q l i d e a m hl hc he hm0 hm
end Go.Proofs.YtldjakeigjngoaaGreat
/- Contract: a text's value, as the program reads it. -/
namespace Go.Proofs.YtldjakeigjngoaaGreat
open Go.RowKit Bf
theorem tokA_num (s : List UInt8) (i : Nat) (hi : i < s.length) {t : TokT} {e p : Int} (h : tokA s i = (t, e, p)) : I64 t.2.2.2.2 := (tokA_bd s i hi h).2.2.1
theorem scanT_num (s : List UInt8) : ∀ (m i : Nat), s.length - i ≤ m → TokI (scanT s i).1 := by
 intro m
 induction m with
 | zero => intro i h; rw [scanT_end s i (by omega)]; intro t ht; simp only [List.mem_singleton] at ht; subst ht; exact ⟨by simp, by simp⟩
 | succ m ih =>
  intro i h
  have hnil : TokI [] := fun t ht => by cases ht
  by_cases he : s.length ≤ i
  · rw [scanT_end s i he]; intro t ht; simp only [List.mem_singleton] at ht; subst ht; exact ⟨by simp, by simp⟩
  · obtain ⟨tk, e0, p0, htk⟩ : ∃ t e p, tokA s i = (t, e, p) := ⟨_, _, _, rfl⟩
    rw [scanT, dif_neg he]
    split
    · exact ih (i + 1) (by omega)
    · split
      · split
        · exact hnil
        · split
          · exact ih _ (by omega)
          · exact hnil
      · split
        · exact hnil
        · split
          · rename_i h0 h2
            split
            · intro t ht
              simp only [List.mem_cons] at ht
              rcases ht with rfl | ht
              · rw [htk]; exact tokA_num s i (by omega) htk
              · exact ih _ (by omega) t ht
            · exact hnil
          · exact hnil
theorem scanR_num (s : List UInt8) : TokI (scanR s).1 := by
 unfold scanR; split
 · exact fun t ht => by cases ht
 · exact scanT_num s _ 0 (Nat.le_refl _)
section
variable {P : Program} {fr : Fr} {hp : List En}
theorem ret_ccw (i j : Nat) {D : Nat → Prop} {fn : Func} {c d : Tmp} {ct dt : TypeId} {cd dd : TypeDesc} {ci di : TypeInfo} [TU P ct cd] [TI P ct ci] [TU P dt dd] [TI P dt di] {w0 : World} {n b b' : Nat} {e e' : TypeId} {cs ds : List Value} {R : Ending → World → Prop} (hr : fn.results = #[.cell c ct, .cell d dt])
 (hc : get c fr = some (.pointer (some ⟨b, 0, none⟩))) (hd : get d fr = some (.pointer (some ⟨b', 0, none⟩))) (hi : hp[i]? = some (blk b e cs)) (hj : hp[j]? = some (blk b' e' ds)) (ha : isAggD cd = true) (ha' : isAggD dd = true) (hn : Nat.ble (0 + ci.size) cs.length = true) (hn' : Nat.ble (0 + di.size) ds.length = true)
 (h : ∀ w, HpOk D w0 hp w → R (.returned (.tuple #[.agg ⟨cs.take ci.size⟩, .agg ⟨ds.take di.size⟩])) w) :
 Leave P ⟨D, w0, n, bodyPost P fn R⟩ .ret [] fr hp := .mk fun a w ha1 hw => by
 have hl := loadVar_ok (P := P) (t := ct) hw hi ha hn
 have hl' := loadVar_ok (P := P) (t := dt) hw hj ha' hn'
 have hs := ha1.slot c _ hc
 have hs2 := ha1.slot d _ hd
 rw [Array.getD_eq_getD_getElem?] at hs hs2
 have hq : (results fn a.tmps).run P w = .ok (.tuple #[.agg ⟨cs.take ci.size⟩, .agg ⟨ds.take di.size⟩]) w := by
  simp [results, hr, hs, hs2, asAddr, hl, hl']
 show bodyPost P fn R .ret a w
 exact bodyPost_ret hq ha1.defers (h w hw)
end
def z6 : List Value := [.int .i64 0, .int .i64 0, .int .i64 0, S [], .slice none 0 0, .slice none 0 0]
def PP (s : List UInt8) (u : Value) (es : List En) : Prop :=
 match rawR s with
 | .ok v _ _ => ∃ z, u = .tuple #[.agg ⟨rawV z⟩, faultV 0 0] ∧ es = [rawE [z]] ∧ plR z = v
 | .bad e a => u = .tuple #[.agg ⟨z6⟩, faultV e a] ∧ es = []
set_option maxRecDepth 20000 in
set_option maxHeartbeats 8000000 in
theorem praw_c (s : List UInt8) (hs : s.length ≤ 100000000) : CallsE Tryz.prog 7 [S s] [] (PP s) := by
 obtain ⟨L, e, a, hL⟩ : ∃ L e a, scanR s = (L, e, a) := ⟨_, _, _, rfl⟩
 by_cases he : e = 0
 · subst he
   have ha := scanR_a0 hL
   subst ha
   have hT := (scanR_toks hL (scanR_cnt hL)).1
   have hI : TokI L := by have := scanR_num s; rw [hL] at this; exact this
   have hc0 : CurOk L ⟨0, 0, 0, 0⟩ := ⟨by decide, by have := hT.n; simp only; omega, by decide, by decide⟩
   have hR : rawR s = match valR 24 L 0 with | .ok v l m => if (hdT l).1 = 0 then .ok v l m else oddR l | .bad e a => .bad e a := by unfold rawR; rw [hL, if_neg (by simp)]; rfl
   have hst : stR L ⟨0, 0, 0, 0⟩ 0 = valR 24 L 0 := if_neg (fun h => h rfl)
   have hval := fun rb cb p q => value_c 24 (Nat.le_refl _) rb cb p q L ⟨0, 0, 0, 0⟩ 0 hT hI hc0 rfl (fun _ => rfl) (by decide) (by decide)
   cases hr : valR 24 L 0 with
   | ok v l' m' =>
    refine sy_enterE rfl rfl (fun w => ?_)
    simp only [initFr]
    repeat (first | refine sy_k rfl rfl ?_ | (refine gO ?_; first | refine sy_ov (ov_p rfl) rfl rfl ?_ | (refine sy_alloc rfl rfl rfl ?_; intro _)))
    refine sy_callE [] rfl rfl rfl (cur_new s (by omega)) ?_
    rintro _ _ (⟨hz, cb, p, q, rfl, rfl⟩ | ⟨hz, _⟩)
    · rw [hL]
      dsimp only
      simp only [curE, List.cons_append, List.nil_append]
      rename_i b2 b3
      repeat (first | refine sy_k rfl rfl ?_ | (refine gO ?_; first | refine sy_ov (ov_p rfl) rfl rfl ?_ | (refine gL ?_; refine sy_ov (ov_ld 0 rfl rfl rfl) rfl rfl ?_) | (refine gS ?_; refine sy_store 0 rfl rfl rfl rfl rfl rfl rfl rfl ?_) | refine sy_ov (ov_fieldAddr rfl rfl rfl) rfl rfl ?_ | refine sy_ov (ov_build rfl rfl rfl) rfl rfl ?_ | (refine sy_box rfl rfl rfl ?_; intro _) | (refine sy_alloc rfl rfl rfl ?_; intro _)) | (refine sy_cond_f rfl ?_ ?_; (first | with_reducible rfl | assumption | omega | (simp <;> first | omega | assumption))))
      rename_i b5 rb
      refine sy_order [2, 3, 0, 1, 4, 5] rfl rfl ?_
      simp only [List.set_cons_zero, List.set_cons_succ, List.filterMap_cons, List.filterMap_nil, List.getElem?_cons_zero, List.getElem?_cons_succ]
      refine sy_callE (rrE rb cb p q L ⟨0, 0, 0, 0⟩ 0) rfl rfl rfl (hval rb cb p q) ?_
      intro u es' hV
      simp only [VP, hst, hr] at hV
      obtain ⟨z, i', rfl, rfl, hpl, hl', hlt, hc', hm0', hm1'⟩ := hV
      simp only [rrE, curE, List.cons_append, List.nil_append]
      obtain ⟨zk, za, zn, zsx, zpk, zck, zkeys, zp, zc, zkids⟩ := z
      repeat (first | refine sy_k rfl rfl ?_ | (refine gO ?_; first | refine sy_ov (ov_p rfl) rfl rfl ?_ | (refine gL ?_; refine sy_ov (ov_ld 3 rfl rfl rfl) rfl rfl ?_) | (refine gS ?_; refine sy_store 0 rfl rfl rfl rfl rfl rfl rfl rfl ?_) | refine sy_ov (ov_fieldAddr rfl rfl rfl) rfl rfl ?_ | (refine sy_alloc rfl rfl rfl ?_; intro _)))
      have hi1' := hc'.i1
      have hi0' := hc'.i0
      simp only at hi1' hi0'
      obtain ⟨u2, hu2⟩ : ∃ u2, L[i'.toNat]? = some u2 := ⟨_, List.getElem?_eq_getElem (by omega)⟩
      have hhd : hdT l' = u2 := by rw [hl', (hdT_at hu2).1]
      have hfa := cur_fault cb p q L ⟨i', 0, 0, 0⟩
      have hpk := cur_peek cb p q L ⟨i', 0, 0, 0⟩ hT hc'
      rw [peek_at (c := ⟨i', 0, 0, 0⟩) rfl hu2] at hpk
      simp only at hfa
      by_cases hk : u2.1 = 0
      · have hR2 : rawR s = .ok v l' m' := by rw [hR, hr]; simp only; rw [hhd, if_pos hk]
        have hP : PP s (.tuple #[.agg ⟨rawV (.mk zk za zn zsx zpk zck zkeys zp zc zkids)⟩, faultV 0 0]) [rawE [.mk zk za zn zsx zpk zck zkeys zp zc zkids]] := by unfold PP; rw [hR2]; exact ⟨_, rfl, rfl, hpl⟩
        refine sy_order [1, 2, 3, 5, 0, 6, 7, 4] rfl rfl ?_
        simp only [List.set_cons_zero, List.set_cons_succ, List.filterMap_cons, List.filterMap_nil, List.getElem?_cons_zero, List.getElem?_cons_succ]
        refine sy_callE (curE cb p q L _) rfl rfl rfl (hfa) ?_
        rintro _ _ ⟨rfl, rfl⟩
        simp only [curE, List.cons_append, List.nil_append]
        repeat ((refine gO ?_; first | refine sy_ov (ov_p rfl) rfl rfl ?_ | (refine gG ?_; (refine sy_guard_yes rfl rfl rfl rfl rfl ?_ ?_; (first | with_reducible rfl | assumption | omega | (simp <;> first | omega | assumption)))) | (refine gL ?_; refine sy_ov (ov_ld 2 rfl rfl rfl) rfl rfl ?_) | refine sy_ov (ov_fieldAddr rfl rfl rfl) rfl rfl ?_ | refine sy_ov (ov_field rfl rfl rfl) rfl rfl ?_))
        refine sy_callE (curE cb p q L _) rfl rfl rfl (hpk) ?_
        rintro _ _ ⟨rfl, rfl⟩
        simp only [curE, List.cons_append, List.nil_append]
        repeat (first | refine sy_k rfl rfl ?_ | (refine gO ?_; first | refine sy_ov (ov_p rfl) rfl rfl ?_ | (refine gG ?_; (refine sy_guard_yes rfl rfl rfl rfl rfl ?_ ?_; (first | with_reducible rfl | assumption | omega | (simp <;> first | omega | assumption)))) | (refine gL ?_; refine sy_ov (ov_ld 2 rfl rfl rfl) rfl rfl ?_) | (refine sy_ov (ov_pick_t rfl rfl ?_) rfl rfl ?_; focus (with_reducible rfl)) | refine sy_ov (ov_fieldAddr rfl rfl rfl) rfl rfl ?_ | refine sy_ov (ov_field rfl rfl rfl) rfl rfl ?_) | (refine sy_cond_f rfl ?_ ?_; (first | with_reducible rfl | assumption | omega | (simp <;> first | omega | assumption))))
        refine sy_callE (curE cb p q L _) rfl rfl rfl (hfa) ?_
        rintro _ _ ⟨rfl, rfl⟩
        simp only [curE, List.cons_append, List.nil_append]
        repeat (first | refine sy_k rfl rfl ?_ | (refine gO ?_; first | refine sy_ov (ov_p rfl) rfl rfl ?_ | (refine gL ?_; refine sy_ov (ov_ld 3 rfl rfl rfl) rfl rfl ?_) | (refine gS ?_; refine sy_store 3 rfl rfl rfl rfl rfl rfl rfl rfl ?_) | refine sy_ov (ov_fieldAddr rfl rfl rfl) rfl rfl ?_) | (refine sy_cond_f rfl ?_ ?_; (first | with_reducible rfl | assumption | omega | (simp <;> first | omega | assumption))))
        refine sy_order [3, 4, 5, 6, 0, 1, 2, 7] rfl rfl ?_
        simp only [List.set_cons_zero, List.set_cons_succ, List.filterMap_cons, List.filterMap_nil, List.getElem?_cons_zero, List.getElem?_cons_succ]
        refine sy_drawE _ 3 [(0, false), (1, false), (2, true)] (by kernel_rfl) rfl (sk (sk (sk (sd sr)))) ?_
        repeat (first | refine dre_rd (fun _ _ => ov_ld 0 rfl rfl rfl) rfl ?_ | refine dre_rd (fun _ _ => ov_ld 1 rfl rfl rfl) rfl ?_ | (refine dre_ef rfl ?_; refine sy_store 3 rfl rfl rfl rfl rfl rfl rfl rfl ?_; refine dre_ek (by repeat first | exact sr | apply sk | apply sd) ?_) | refine dre_end ?_)
        repeat (first | refine sy_k rfl rfl ?_ | (refine gO ?_; (refine gS ?_; refine sy_store 2 rfl rfl rfl rfl rfl rfl rfl rfl ?_)) | refine sy_rt ?_)
        refine ret_ccw 3 2 rfl rfl rfl rfl rfl rfl rfl rfl rfl fun w' hw' => ?_
        exact postE hw' _ (sub_self (sd (sd (sd (sd (sd (sd (sd sr)))))))) rfl hP
      · have hR2 : rawR s = .bad (oddE u2).1 u2.2.1 := by rw [hR, hr]; simp only; rw [hhd, if_neg hk]; unfold oddR; rw [hhd]; rfl
        have hP : PP s (.tuple #[.agg ⟨z6⟩, faultV (oddE u2).1 u2.2.1]) [] := by unfold PP; rw [hR2]; exact ⟨rfl, rfl⟩
        have hwr := rr_wrong rb cb p q L ⟨i', 0, 0, 0⟩ m' hT hc'
        rw [wrong_at (c := ⟨i', 0, 0, 0⟩) rfl hu2] at hwr
        have hod := oddE_ne u2
        have hfb := cur_fault cb p q L ⟨i', 0, (oddE u2).1, u2.2.1⟩
        simp only at hfb hwr
        refine sy_order [1, 2, 3, 5, 0, 6, 7, 4] rfl rfl ?_
        simp only [List.set_cons_zero, List.set_cons_succ, List.filterMap_cons, List.filterMap_nil, List.getElem?_cons_zero, List.getElem?_cons_succ]
        refine sy_callE (curE cb p q L _) rfl rfl rfl (hfa) ?_
        rintro _ _ ⟨rfl, rfl⟩
        simp only [curE, List.cons_append, List.nil_append]
        repeat ((refine gO ?_; first | refine sy_ov (ov_p rfl) rfl rfl ?_ | (refine gG ?_; (refine sy_guard_yes rfl rfl rfl rfl rfl ?_ ?_; (first | with_reducible rfl | assumption | omega | (simp <;> first | omega | assumption)))) | (refine gL ?_; refine sy_ov (ov_ld 2 rfl rfl rfl) rfl rfl ?_) | refine sy_ov (ov_fieldAddr rfl rfl rfl) rfl rfl ?_ | refine sy_ov (ov_field rfl rfl rfl) rfl rfl ?_))
        refine sy_callE (curE cb p q L _) rfl rfl rfl (hpk) ?_
        rintro _ _ ⟨rfl, rfl⟩
        simp only [curE, List.cons_append, List.nil_append]
        repeat (first | refine sy_k rfl rfl ?_ | (refine gO ?_; first | refine sy_ov (ov_p rfl) rfl rfl ?_ | (refine gG ?_; (refine sy_guard_yes rfl rfl rfl rfl rfl ?_ ?_; (first | with_reducible rfl | assumption | omega | (simp <;> first | omega | assumption)))) | (refine sy_ov (ov_pick_t rfl rfl ?_) rfl rfl ?_; focus (with_reducible rfl)) | refine sy_ov (ov_field rfl rfl rfl) rfl rfl ?_) | (refine sy_cond_t rfl ?_ ?_; (first | with_reducible rfl | assumption | omega | (simp <;> first | omega | assumption))))
        refine sy_callE (rrE rb cb p q L ⟨i', 0, 0, 0⟩ m') rfl rfl rfl hwr ?_
        rintro _ _ ⟨rfl, rfl⟩
        simp only [rrE, curE, List.cons_append, List.nil_append]
        repeat (first | refine sy_k rfl rfl ?_ | (refine gO ?_; first | refine sy_ov (ov_p rfl) rfl rfl ?_ | (refine gL ?_; refine sy_ov (ov_ld 2 rfl rfl rfl) rfl rfl ?_) | refine sy_ov (ov_fieldAddr rfl rfl rfl) rfl rfl ?_))
        refine sy_callE (curE cb p q L _) rfl rfl rfl (hfb) ?_
        rintro _ _ ⟨rfl, rfl⟩
        simp only [curE, List.cons_append, List.nil_append]
        repeat (first | refine sy_k rfl rfl ?_ | (refine gO ?_; first | refine sy_ov (ov_p rfl) rfl rfl ?_ | (refine gL ?_; refine sy_ov (ov_ld 3 rfl rfl rfl) rfl rfl ?_) | (refine gS ?_; refine sy_store 3 rfl rfl rfl rfl rfl rfl rfl rfl ?_) | refine sy_ov (ov_fieldAddr rfl rfl rfl) rfl rfl ?_) | (refine sy_cond_t rfl ?_ ?_; (first | with_reducible rfl | assumption | omega | (simp <;> first | omega | assumption))))
        refine sy_order [3, 4, 5, 6, 0, 1, 2, 7] rfl rfl ?_
        simp only [List.set_cons_zero, List.set_cons_succ, List.filterMap_cons, List.filterMap_nil, List.getElem?_cons_zero, List.getElem?_cons_succ]
        refine sy_drawE _ 3 [(0, false), (1, false), (2, true)] (by kernel_rfl) rfl (sk (sk (sk (sd sr)))) ?_
        repeat (first | refine dre_rd (fun _ _ => ov_ld 0 rfl rfl rfl) rfl ?_ | refine dre_rd (fun _ _ => ov_build rfl rfl rfl) rfl ?_ | (refine dre_ef rfl ?_; refine sy_store 3 rfl rfl rfl rfl rfl rfl rfl rfl ?_; refine dre_ek (by repeat first | exact sr | apply sk | apply sd) ?_) | refine dre_end ?_)
        repeat (first | refine sy_k rfl rfl ?_ | (refine gO ?_; (refine gS ?_; refine sy_store 2 rfl rfl rfl rfl rfl rfl rfl rfl ?_)) | refine sy_rt ?_)
        refine ret_ccw 3 2 rfl rfl rfl rfl rfl rfl rfl rfl rfl fun w' hw' => ?_
        exact postE hw' [] (sub_self (List.nil_sublist _)) rfl hP
    · rw [hL] at hz; exact absurd rfl hz
   | bad e' a' =>
    have hR2 : rawR s = .bad e' a' := by rw [hR, hr]
    have hP : PP s (.tuple #[.agg ⟨z6⟩, faultV e' a']) [] := by unfold PP; rw [hR2]; exact ⟨rfl, rfl⟩
    refine sy_enterE rfl rfl (fun w => ?_)
    simp only [initFr]
    repeat (first | refine sy_k rfl rfl ?_ | (refine gO ?_; first | refine sy_ov (ov_p rfl) rfl rfl ?_ | (refine sy_alloc rfl rfl rfl ?_; intro _)))
    refine sy_callE [] rfl rfl rfl (cur_new s (by omega)) ?_
    rintro _ _ (⟨hz, cb, p, q, rfl, rfl⟩ | ⟨hz, _⟩)
    · rw [hL]
      dsimp only
      simp only [curE, List.cons_append, List.nil_append]
      rename_i b2 b3
      repeat (first | refine sy_k rfl rfl ?_ | (refine gO ?_; first | refine sy_ov (ov_p rfl) rfl rfl ?_ | (refine gL ?_; refine sy_ov (ov_ld 0 rfl rfl rfl) rfl rfl ?_) | (refine gS ?_; refine sy_store 0 rfl rfl rfl rfl rfl rfl rfl rfl ?_) | refine sy_ov (ov_fieldAddr rfl rfl rfl) rfl rfl ?_ | refine sy_ov (ov_build rfl rfl rfl) rfl rfl ?_ | (refine sy_box rfl rfl rfl ?_; intro _) | (refine sy_alloc rfl rfl rfl ?_; intro _)) | (refine sy_cond_f rfl ?_ ?_; (first | with_reducible rfl | assumption | omega | (simp <;> first | omega | assumption))))
      rename_i b5 rb
      refine sy_order [2, 3, 0, 1, 4, 5] rfl rfl ?_
      simp only [List.set_cons_zero, List.set_cons_succ, List.filterMap_cons, List.filterMap_nil, List.getElem?_cons_zero, List.getElem?_cons_succ]
      refine sy_callE (rrE rb cb p q L ⟨0, 0, 0, 0⟩ 0) rfl rfl rfl (hval rb cb p q) ?_
      intro u es' hV
      simp only [VP, hst, hr] at hV
      obtain ⟨cs, c', m', rfl, hc6, hone, rfl, hB, hm0', hm1'⟩ := hV
      have hce := hB.he
      have hca := hB.ha
      have hne := hB.ne
      have hfa := cur_fault cb p q L c'
      rw [hce, hca] at hfa
      simp only [rrE, curE, List.cons_append, List.nil_append]
      obtain ⟨c0, c1, c2, c3, c4, c5, rfl⟩ := six hc6
      repeat ((refine gO ?_; (refine sy_alloc rfl rfl rfl ?_; intro _)))
      refine sy_store 0 rfl rfl rfl rfl rfl hone rfl rfl ?_
      refine sy_order [1, 2, 3, 4, 0, 5, 6] rfl rfl ?_
      simp only [List.set_cons_zero, List.set_cons_succ, List.filterMap_cons, List.filterMap_nil, List.getElem?_cons_zero, List.getElem?_cons_succ]
      repeat (first | refine sy_k rfl rfl ?_ | (refine gO ?_; first | refine sy_ov (ov_p rfl) rfl rfl ?_ | (refine gL ?_; refine sy_ov (ov_ld 2 rfl rfl rfl) rfl rfl ?_) | refine sy_ov (ov_fieldAddr rfl rfl rfl) rfl rfl ?_))
      refine sy_callE (curE cb p q L _) rfl rfl rfl (hfa) ?_
      rintro _ _ ⟨rfl, rfl⟩
      simp only [curE, List.cons_append, List.nil_append]
      repeat (first | refine sy_k rfl rfl ?_ | (refine gO ?_; first | refine sy_ov (ov_p rfl) rfl rfl ?_ | (refine gG ?_; (refine sy_guard_no rfl rfl rfl rfl rfl ?_ ?_; (first | with_reducible rfl | assumption | omega | (simp <;> first | omega | assumption)))) | (refine gL ?_; refine sy_ov (ov_ld 2 rfl rfl rfl) rfl rfl ?_) | refine sy_ov (ov_pick rfl rfl rfl) rfl rfl ?_ | refine sy_ov (ov_fieldAddr rfl rfl rfl) rfl rfl ?_ | refine sy_ov (ov_field rfl rfl rfl) rfl rfl ?_) | (refine sy_cond_f rfl ?_ ?_; (first | with_reducible rfl | assumption | omega | (simp <;> first | omega | assumption))))
      refine sy_callE (curE cb p q L _) rfl rfl rfl (hfa) ?_
      rintro _ _ ⟨rfl, rfl⟩
      simp only [curE, List.cons_append, List.nil_append]
      repeat (first | refine sy_k rfl rfl ?_ | (refine gO ?_; first | refine sy_ov (ov_p rfl) rfl rfl ?_ | (refine gL ?_; refine sy_ov (ov_ld 3 rfl rfl rfl) rfl rfl ?_) | (refine gS ?_; refine sy_store 3 rfl rfl rfl rfl rfl rfl rfl rfl ?_) | refine sy_ov (ov_fieldAddr rfl rfl rfl) rfl rfl ?_) | (refine sy_cond_t rfl ?_ ?_; (first | with_reducible rfl | assumption | omega | (simp <;> first | omega | assumption))))
      refine sy_order [3, 4, 5, 6, 0, 1, 2] rfl rfl ?_
      simp only [List.set_cons_zero, List.set_cons_succ, List.filterMap_cons, List.filterMap_nil, List.getElem?_cons_zero, List.getElem?_cons_succ]
      refine sy_drawE _ 3 [(0, false), (1, false), (2, true)] (by kernel_rfl) rfl (sk (sk (sk (sd sr)))) ?_
      repeat (first | refine dre_rd (fun _ _ => ov_ld 0 rfl rfl rfl) rfl ?_ | refine dre_rd (fun _ _ => ov_build rfl rfl rfl) rfl ?_ | (refine dre_ef rfl ?_; refine sy_store 3 rfl rfl rfl rfl rfl rfl rfl rfl ?_; refine dre_ek (by repeat first | exact sr | apply sk | apply sd) ?_) | refine dre_end ?_)
      repeat (first | refine sy_k rfl rfl ?_ | (refine gO ?_; (refine gS ?_; refine sy_store 2 rfl rfl rfl rfl rfl rfl rfl rfl ?_)) | refine sy_rt ?_)
      refine ret_ccw 3 2 rfl rfl rfl rfl rfl rfl rfl rfl rfl fun w' hw' => ?_
      exact postE hw' [] (sub_self (List.nil_sublist _)) rfl hP
    · rw [hL] at hz; exact absurd rfl hz
 · have hR2 : rawR s = .bad e a := by unfold rawR; rw [hL, if_pos he]
   have hP : PP s (.tuple #[.agg ⟨z6⟩, faultV e a]) [] := by unfold PP; rw [hR2]; exact ⟨rfl, rfl⟩
   refine sy_enterE rfl rfl (fun w => ?_)
   simp only [initFr]
   repeat (first | refine sy_k rfl rfl ?_ | (refine gO ?_; first | refine sy_ov (ov_p rfl) rfl rfl ?_ | (refine sy_alloc rfl rfl rfl ?_; intro _)))
   refine sy_callE [] rfl rfl rfl (cur_new s (by omega)) ?_
   rintro _ _ (⟨hz, _⟩ | ⟨hz, rfl, rfl⟩)
   · rw [hL] at hz; exact absurd hz he
   · rw [hL]
     dsimp only
     simp only [List.nil_append]
     repeat (first | refine sy_k rfl rfl ?_ | (refine gO ?_; first | refine sy_ov (ov_p rfl) rfl rfl ?_ | (refine gL ?_; refine sy_ov (ov_ld 0 rfl rfl rfl) rfl rfl ?_) | (refine gS ?_; refine sy_store 0 rfl rfl rfl rfl rfl rfl rfl rfl ?_) | refine sy_ov (ov_fieldAddr rfl rfl rfl) rfl rfl ?_ | (refine sy_alloc rfl rfl rfl ?_; intro _)) | (refine sy_cond_t rfl ?_ ?_; (first | with_reducible rfl | assumption | omega | (simp <;> first | omega | assumption))))
     refine sy_drawE _ 3 [(0, false), (1, false), (2, true)] (by kernel_rfl) rfl (sk (sk (sd sr))) ?_
     repeat (first | refine dre_rd (fun _ _ => ov_ld 0 rfl rfl rfl) rfl ?_ | refine dre_rd (fun _ _ => ov_build rfl rfl rfl) rfl ?_ | (refine dre_ef rfl ?_; refine sy_store 2 rfl rfl rfl rfl rfl rfl rfl rfl ?_; refine dre_ek (by repeat first | exact sr | apply sk | apply sd) ?_) | refine dre_end ?_)
     repeat (first | refine sy_k rfl rfl ?_ | (refine gO ?_; (refine gS ?_; refine sy_store 1 rfl rfl rfl rfl rfl rfl rfl rfl ?_)) | refine sy_rt ?_)
     refine ret_ccw 2 1 rfl rfl rfl rfl rfl rfl rfl rfl rfl fun w' hw' => ?_
     exact postE hw' [] (sub_self (List.nil_sublist _)) rfl hP
end Go.Proofs.YtldjakeigjngoaaGreat