/- BSY: texts of this proof, joined by program: RSyn12, RSyn13. -/
import Derived.Test.YtldjakeigjngoaaGreatBSV
import Derived.Test.YtldjakeigjngoaaGreatBST
import Derived.Test.YtldjakeigjngoaaGreatBRX
import Derived.Test.YtldjakeigjngoaaGreatBSU
set_option linter.unusedVariables false
set_option linter.unusedSimpArgs false
namespace Go.Proofs.YtldjakeigjngoaaGreat
open Go.RowKit Bf
theorem ws_st {w : World} {a : WsA} (h : WsJ w a) : St (fun _ => False) w (fun w => WsJ w a) := St.start (fun _ _ hb h => WsJ.bl hb h) h
theorem eqW (x : WordT) : eqL (wordV x) (wordV x) = true := by rw [eqL_word]; simp
set_option maxRecDepth 20000 in
theorem rq_words (a b : WsA) (w : World) (ha : WsJ w a) (hb : WsJ w b) (he : a.l = b.l) : Calls Tryz.prog 32 #[wsV a, wsV b] w fun u w' => u = .returned (.bool true) ∧ Below w.heap.size w w' := by
 obtain ⟨pa, ca, l⟩ := a
 obtain ⟨pb, cb, l2⟩ := b
 simp only at he
 subst he
 have hm : l.length ≤ 9223372036854775807 := ha.1
 have hsw : St (fun _ => False) w (fun w => IsSl w 2 pa l.length (l.flatMap wordV)) := St.start (IsSl.bl _ _ _ _) ha.2
 have hsw' : St (fun _ => False) w (fun w => IsSl w 2 pb l.length (l.flatMap wordV)) := St.start (IsSl.bl _ _ _ _) hb.2
 simp only [wsV]
 refine sy_enter rfl rfl ?_
 simp only [initFr]
 repeat (first | refine yK ?_ | refine yP ?_ | refine sy_ov (ov_lens rfl) rfl rfl ?_ | refine yN ?_)
 refine sy_loop (α := Int) (fun i => [(0, .slice pa l.length ca), (1, .slice pb l.length cb), (5, .int .i64 i)]) (fun _ => []) (fun i => 0 ≤ i ∧ i ≤ l.length) (fun i => (l.length - i).toNat) 0 ⟨by omega, by omega⟩ ⟨zz, zz, zz, trivial⟩ sr ?_
 rintro i ⟨i0, i1⟩
 by_cases hlt : i < l.length
 · obtain ⟨x, hx⟩ : ∃ x, l[i.toNat]? = some x := ⟨_, List.getElem?_eq_getElem (by omega)⟩
   obtain ⟨b, off, hp, hat⟩ := hsw.addr (by omega)
   obtain ⟨b', off', hp', hat'⟩ := hsw'.addr (by omega)
   subst hp
   subst hp'
   repeat (first | refine yK ?_ | refine yP ?_ | refine sy_ov (ov_lens rfl) rfl rfl ?_ | refine yT ?_)
   refine sy_draw 8 (by kernel_rfl) ?_
   repeat (first | refine dr_op (ov_p rfl) rfl rfl ?_ | (refine dr_op (ov_indexAddr rfl rfl ?_ ?_) rfl rfl ?_; omega; omega))
   refine dr_op (ov_elem (f := wordV) hat hx rfl rfl (fun _ => rfl)) rfl rfl ?_
   repeat (first | refine dr_op (ov_p rfl) rfl rfl ?_ | (refine dr_op (ov_indexAddr rfl rfl ?_ ?_) rfl rfl ?_; omega; omega))
   refine dr_op (ov_elem (f := wordV) hat' hx rfl rfl (fun _ => rfl)) rfl rfl ?_
   repeat (refine dr_end ?_)
   refine sy_ov (ov_nest (xs := wordV x) (ys := wordV x) rfl rfl rfl rfl) rfl rfl ?_
   rw [eqW]
   repeat (first | refine yK ?_ | refine yP ?_ | (refine yR ?_ ?_ ?_; omega; omega) | refine yN ?_)
   refine sy_back (i + 1) ⟨by omega, by omega⟩ (by omega) ⟨zz, zz, zz, trivial⟩ sr
 · repeat (first | refine yK ?_ | refine yP ?_ | refine sy_ov (ov_lens rfl) rfl rfl ?_ | refine yN ?_ | refine sy_rt ?_)
   exact ret1 rfl rfl rfl
theorem sizeT_part {k a lo hi most : Int} {ns : WsA} {pp : Option Addr} {cp : Nat} {parts : List PrtA} {nm : WordT} {nm' : WordT} {bare : Bool} {lab : WsA} {wide ck cn ca : Int} {cl : WsA} {ty : TypA} (h : PrtA.mk nm' bare lab wide ck cn ca cl ty ∈ parts) : SizeOf.sizeOf ty < SizeOf.sizeOf (TypA.mk k a lo hi most ns pp cp parts nm) := by
 have := List.sizeOf_lt_of_mem h
 simp at this ⊢; omega
set_option maxRecDepth 20000 in
set_option maxHeartbeats 8000000 in
theorem rq_same : ∀ (m : Nat) (z : TypA), SizeOf.sizeOf z ≤ m → ∀ (z2 : TypA) (w : World), TypJ w z → TypJ w z2 → plT z = plT z2 → Calls Tryz.prog 13 #[.agg ⟨typV z⟩, .agg ⟨typV z2⟩] w fun e w' => e = .returned (.bool true) ∧ Below w.heap.size w w' := by
 intro m
 induction m with
 | zero => intro z hz; cases z; simp at hz
 | succ m ih =>
  intro z hz z2 w hw1 hw2 hpl
  obtain ⟨k, a, lo, hi, most, ns, pp, cp, parts, nm⟩ := z
  obtain ⟨k', a', lo', hi', most', ns', pp', cp', parts', nm'⟩ := z2
  simp only [plT, TypP.mk.injEq] at hpl
  obtain ⟨rfl, rfl, rfl, rfl, rfl, hns, hps, rfl⟩ := hpl
  simp only [TypJ] at hw1 hw2
  obtain ⟨w1, hm, hs, hj⟩ := hw1
  obtain ⟨w2, hm', hs', hj'⟩ := hw2
  have hlen : parts.length = parts'.length := by have := congrArg List.length hps; rwa [plPs_len, plPs_len] at this
  have hmm : parts.length ≤ 9223372036854775807 := hm
  have sw1 := ws_st w1
  have sw2 := ws_st w2
  have hst : St (fun _ => False) w (fun w => IsSl w 18 pp parts.length (parts.flatMap prtV)) := St.start (IsSl.bl _ _ _ _) hs
  have hst' : St (fun _ => False) w (fun w => IsSl w 18 pp' parts'.length (parts'.flatMap prtV)) := St.start (IsSl.bl _ _ _ _) hs'
  have hsj : St (fun _ => False) w (fun w => PrtsJ w parts) := St.start (fun _ _ hb h => PrtsJ.bl' hb _ h) hj
  have hsj' : St (fun _ => False) w (fun w => PrtsJ w parts') := St.start (fun _ _ hb h => PrtsJ.bl' hb _ h) hj'
  rw [← hlen] at hst'
  simp only [typV]
  rw [← hlen]
  refine sy_enter rfl rfl ?_
  simp only [initFr]
  repeat (first | refine yK ?_ | refine yP ?_ | refine yG ?_ | refine yL 0 ?_ | refine yL 1 ?_ | refine yE ?_ | refine yF ?_ | (refine yX ?_; intro _))
  refine sy_ov (ov_nest (xs := wordV nm) (ys := wordV nm) rfl rfl rfl rfl) rfl rfl ?_
  rw [eqW]
  repeat (first | refine yP ?_ | refine yG ?_ | refine yL 0 ?_ | refine yL 1 ?_ | refine yE ?_ | refine yF ?_)
  refine sy_ov (ov_call rfl (fun w hw => rq_words ns ns' w (sw1.at hw) (sw2.at hw) hns)) rfl rfl ?_
  repeat (first | refine yK ?_ | refine yP ?_ | refine yG ?_ | refine sy_ov (ov_lens rfl) rfl rfl ?_ | refine yL 0 ?_ | refine yL 1 ?_ | refine yE ?_ | refine yF ?_ | refine yN ?_)
  rename_i b2 b3
  refine sy_loop (α := Int) (fun i => [(2, ptr b2), (3, ptr b3), (5, .int .i64 i)]) (fun _ => [blk b3 38 [.int .i64 k, .int .i64 a, .int .i64 lo, .int .i64 hi, .int .i64 most, wsV ns', .slice pp' parts.length cp', S nm.1, .int .i64 nm.2], blk b2 38 [.int .i64 k, .int .i64 a, .int .i64 lo, .int .i64 hi, .int .i64 most, wsV ns, .slice pp parts.length cp, S nm.1, .int .i64 nm.2]]) (fun i => 0 ≤ i ∧ i ≤ parts.length) (fun i => (parts.length - i).toNat) 0 ⟨by omega, by omega⟩ ⟨zz, zz, zz, trivial⟩ sr ?_
  rintro i ⟨i0, i1⟩
  by_cases hlt : i < parts.length
  · obtain ⟨x, hx⟩ : ∃ x, parts[i.toNat]? = some x := ⟨_, List.getElem?_eq_getElem (by omega)⟩
    obtain ⟨y, hy⟩ : ∃ y, parts'[i.toNat]? = some y := ⟨_, List.getElem?_eq_getElem (by omega)⟩
    have hxy : plP x = plP y := by
     have e1 := plPs_get parts i.toNat
     have e2 := plPs_get parts' i.toNat
     rw [hx] at e1
     rw [hy, ← hps, e1] at e2
     simpa using e2
    have hxm := List.mem_of_getElem? hx
    obtain ⟨b, off, hp, hat⟩ := hst.addr (by omega)
    obtain ⟨b', off', hp', hat'⟩ := hst'.addr (by omega)
    subst hp
    subst hp'
    have jx : St (fun _ => False) w (fun w => PrtJ w x) := fun w' hk => (hsj w' hk).get hx
    have jy : St (fun _ => False) w (fun w => PrtJ w y) := fun w' hk => (hsj' w' hk).get hy
    obtain ⟨xn, xb, xlab, xw, xk, xq, xa, xcl, ty⟩ := x
    obtain ⟨yn, yb, ylab, yw, yk, yq, ya, ycl, uy⟩ := y
    simp only [plP, PrtP.mk.injEq, Prod.mk.injEq] at hxy
    obtain ⟨rfl, rfl, hlab, rfl, ⟨rfl, rfl, rfl, hcl⟩, hty⟩ := hxy
    simp only [PrtJ] at jx jy
    have hsz := sizeT_part (k := k) (a := a) (lo := lo) (hi := hi) (most := most) (ns := ns) (pp := some ⟨b, off, none⟩) (cp := cp) (nm := nm) hxm
    have hrec := fun w => ih ty (by omega) uy w
    obtain ⟨tk, ta, tlo, thi, tmo, tns, tpp, tcp, tparts, tn⟩ := ty
    obtain ⟨uk, ua, ulo, uhi, umo, uns, upp, ucp, uparts, un⟩ := uy
    repeat (first | refine yK ?_ | refine yP ?_ | refine sy_ov (ov_lens rfl) rfl rfl ?_ | refine yL 1 ?_ | refine yF ?_ | refine yT ?_)
    refine sy_two 10 11 (by kernel_rfl) ?_ ?_
    · refine any_drawE _ 13 [(0, false), (1, false), (2, false), (3, false), (4, false), (5, false), (6, false), (7, false), (8, false), (9, false), (10, true), (11, true), (12, true)] (by kernel_rfl) rfl sr ?_
      repeat (first | refine dre_rd (fun _ _ => ov_p rfl) rfl ?_ | refine dre_rd (fun _ _ => ov_ld 1 rfl rfl rfl) rfl ?_ | refine dre_rd (fun _ _ => ov_fieldAddr rfl rfl rfl) rfl ?_ | (refine dre_rd (fun _ _ => ov_indexAddr rfl rfl ?_ ?_) rfl ?_; omega; omega))
      refine dre_rd (fun _ hC => ov_elem (f := prtV) (hat.le2 hC) hx rfl rfl prtV_len) rfl ?_
      repeat (first | refine dre_rd (fun _ _ => ov_p rfl) rfl ?_ | refine dre_rd (fun _ _ => ov_ld 0 rfl rfl rfl) rfl ?_ | refine dre_rd (fun _ _ => ov_fieldAddr rfl rfl rfl) rfl ?_ | (refine dre_rd (fun _ _ => ov_indexAddr rfl rfl ?_ ?_) rfl ?_; omega; omega))
      refine dre_rd (fun _ hC => ov_elem (f := prtV) (hat'.le2 hC) hy rfl rfl prtV_len) rfl ?_
      simp only [prtV, typV, cX]
      skip
      refine dre_ef rfl ?_
      refine yA ?_
      intro nb1
      refine dre_ek (sd sr) ?_
      skip
      refine dre_ef rfl ?_
      refine yA ?_
      intro nb2
      refine dre_ek (sd (sd sr)) ?_
      repeat (first | (refine dre_ef rfl ?_; refine yS 1 ?_; refine dre_ek (by repeat first | exact sr | apply sk | apply sd) ?_) | refine dre_end ?_)
      refine sy_cells 1 (prtC xn xb xlab xw xk xq xa xcl (typV (.mk tk ta tlo thi tmo tns tpp tcp tparts tn))) rfl (upd0 _ _ rfl) ?_
      refine yS 0 ?_
      refine sy_cells 0 (prtC xn xb ylab xw xk xq xa ycl (typV (.mk uk ua ulo uhi umo uns upp ucp uparts un))) rfl (upd0 _ _ rfl) ?_
      simp only [prtC, typV, List.set_cons_zero, List.set_cons_succ, cX]
      refine sy_frame [(2, ptr b2), (3, ptr b3), (5, .int .i64 i), (6, ptr nb1), (7, ptr nb2)] ⟨zz, zz, zz, zz, zz, trivial⟩ ?_
      repeat (first | refine yK ?_ | refine yL 0 ?_ | refine yL 1 ?_ | refine yF ?_)
      refine sy_ov (ov_nest (xs := wordV xn) (ys := wordV xn) rfl rfl rfl rfl) rfl rfl ?_
      rw [eqW]
      repeat (first | refine yP ?_ | refine yG ?_ | refine sy_ov (ov_neb rfl rfl) rfl rfl ?_ | refine yL 0 ?_ | refine yL 1 ?_ | refine yE ?_ | refine yF ?_)
      refine sy_ov (ov_call rfl (fun w hw => rq_words xlab ylab w (jx.at hw).1 (jy.at hw).1 hlab)) rfl rfl ?_
      repeat (first | refine yP ?_ | refine yG ?_ | refine yL 0 ?_ | refine yL 1 ?_ | refine yE ?_ | refine yF ?_)
      refine sy_ov (ov_call rfl (fun w hw => rq_words xcl ycl w (jx.at hw).2.1 (jy.at hw).2.1 hcl)) rfl rfl ?_
      repeat (first | refine yP ?_ | refine yG ?_ | refine yL 0 ?_ | refine yL 1 ?_ | refine yE ?_ | refine yF ?_)
      refine sy_ov (ov_call rfl (fun w hw => hrec w (jx.at hw).2.2 (jy.at hw).2.2 hty)) rfl rfl ?_
      repeat (first | refine yK ?_ | refine yP ?_ | refine yG ?_ | (refine yR ?_ ?_ ?_; omega; omega) | refine yE ?_ | refine yN ?_)
      refine sy_back (i + 1) ⟨by omega, by omega⟩ (by omega) ⟨zz, zz, zz, trivial⟩ (sd (sd sr))
    · refine any_drawE _ 13 [(0, false), (1, false), (2, false), (3, false), (4, false), (5, false), (6, false), (7, false), (8, false), (9, false), (11, true), (10, true), (12, true)] (by kernel_rfl) rfl sr ?_
      repeat (first | refine dre_rd (fun _ _ => ov_p rfl) rfl ?_ | refine dre_rd (fun _ _ => ov_ld 1 rfl rfl rfl) rfl ?_ | refine dre_rd (fun _ _ => ov_fieldAddr rfl rfl rfl) rfl ?_ | (refine dre_rd (fun _ _ => ov_indexAddr rfl rfl ?_ ?_) rfl ?_; omega; omega))
      refine dre_rd (fun _ hC => ov_elem (f := prtV) (hat.le2 hC) hx rfl rfl prtV_len) rfl ?_
      repeat (first | refine dre_rd (fun _ _ => ov_p rfl) rfl ?_ | refine dre_rd (fun _ _ => ov_ld 0 rfl rfl rfl) rfl ?_ | refine dre_rd (fun _ _ => ov_fieldAddr rfl rfl rfl) rfl ?_ | (refine dre_rd (fun _ _ => ov_indexAddr rfl rfl ?_ ?_) rfl ?_; omega; omega))
      refine dre_rd (fun _ hC => ov_elem (f := prtV) (hat'.le2 hC) hy rfl rfl prtV_len) rfl ?_
      simp only [prtV, typV, cX]
      skip
      refine dre_ef rfl ?_
      refine yA ?_
      intro nb1
      refine dre_ek (sd sr) ?_
      skip
      refine dre_ef rfl ?_
      refine yA ?_
      intro nb2
      refine dre_ek (sd (sd sr)) ?_
      repeat (first | (refine dre_ef rfl ?_; refine yS 0 ?_; refine dre_ek (by repeat first | exact sr | apply sk | apply sd) ?_) | refine dre_end ?_)
      refine sy_cells 0 (prtC xn xb xlab xw xk xq xa xcl (typV (.mk tk ta tlo thi tmo tns tpp tcp tparts tn))) rfl (upd0 _ _ rfl) ?_
      refine yS 1 ?_
      refine sy_cells 1 (prtC xn xb ylab xw xk xq xa ycl (typV (.mk uk ua ulo uhi umo uns upp ucp uparts un))) rfl (upd0 _ _ rfl) ?_
      simp only [prtC, typV, List.set_cons_zero, List.set_cons_succ, cX]
      refine sy_frame [(2, ptr b2), (3, ptr b3), (5, .int .i64 i), (6, ptr nb2), (7, ptr nb1)] ⟨zz, zz, zz, zz, zz, trivial⟩ ?_
      repeat (first | refine yK ?_ | refine yL 0 ?_ | refine yL 1 ?_ | refine yF ?_)
      refine sy_ov (ov_nest (xs := wordV xn) (ys := wordV xn) rfl rfl rfl rfl) rfl rfl ?_
      rw [eqW]
      repeat (first | refine yP ?_ | refine yG ?_ | refine sy_ov (ov_neb rfl rfl) rfl rfl ?_ | refine yL 0 ?_ | refine yL 1 ?_ | refine yE ?_ | refine yF ?_)
      refine sy_ov (ov_call rfl (fun w hw => rq_words xlab ylab w (jx.at hw).1 (jy.at hw).1 hlab)) rfl rfl ?_
      repeat (first | refine yP ?_ | refine yG ?_ | refine yL 0 ?_ | refine yL 1 ?_ | refine yE ?_ | refine yF ?_)
      refine sy_ov (ov_call rfl (fun w hw => rq_words xcl ycl w (jx.at hw).2.1 (jy.at hw).2.1 hcl)) rfl rfl ?_
      repeat (first | refine yP ?_ | refine yG ?_ | refine yL 0 ?_ | refine yL 1 ?_ | refine yE ?_ | refine yF ?_)
      refine sy_ov (ov_call rfl (fun w hw => hrec w (jx.at hw).2.2 (jy.at hw).2.2 hty)) rfl rfl ?_
      repeat (first | refine yK ?_ | refine yP ?_ | refine yG ?_ | (refine yR ?_ ?_ ?_; omega; omega) | refine yE ?_ | refine yN ?_)
      refine sy_back (i + 1) ⟨by omega, by omega⟩ (by omega) ⟨zz, zz, zz, trivial⟩ (sd (sd sr))
  · repeat (first | refine yK ?_ | refine yP ?_ | refine sy_ov (ov_lens rfl) rfl rfl ?_ | refine yL 1 ?_ | refine yF ?_ | refine yN ?_ | refine sy_rt ?_)
    exact ret1 rfl rfl rfl
def TokE (l : List TokT) : Prop := ∀ t ∈ l, t.1 = 0 → t.2.2.2.1 = []
theorem tokA_e (s : List UInt8) (i : Nat) {t : TokT} {e p : Int} (h : tokA s i = (t, e, p)) : t.1 = 0 → t.2.2.2.1 = [] := by
 unfold tokA at h
 split at h
 · split at h
   · obtain ⟨rfl, rfl, rfl⟩ := tri_inj h; simp [ztk]
   · obtain ⟨rfl, rfl, rfl⟩ := tri_inj h; simp
 · split at h
   · obtain ⟨rfl, rfl, rfl⟩ := tri_inj h; simp
   · split at h
     · split at h
       · obtain ⟨rfl, rfl, rfl⟩ := tri_inj h; simp [ztk]
       · obtain ⟨rfl, rfl, rfl⟩ := tri_inj h; simp
     · split at h
       · split at h
         · obtain ⟨rfl, rfl, rfl⟩ := tri_inj h; simp [ztk]
         · obtain ⟨rfl, rfl, rfl⟩ := tri_inj h; simp
       · obtain ⟨rfl, rfl, rfl⟩ := tri_inj h; simp [ztk]
theorem scanT_e (s : List UInt8) : ∀ (m i : Nat), s.length - i ≤ m → TokE (scanT s i).1 := by
 intro m
 induction m with
 | zero => intro i h; rw [scanT_end s i (by omega)]; intro t ht; simp only [List.mem_singleton] at ht; subst ht; simp
 | succ m ih =>
  intro i h
  have hnil : TokE [] := fun t ht => by cases ht
  by_cases he : s.length ≤ i
  · rw [scanT_end s i he]; intro t ht; simp only [List.mem_singleton] at ht; subst ht; simp
  · obtain ⟨tk, e0, p0, htk⟩ : ∃ t e p, tokA s i = (t, e, p) := ⟨_, _, _, rfl⟩
    rw [scanT, dif_neg he]
    split
    · exact ih (i + 1) (by omega)
    · split
      · split
        · exact hnil
        · split
          · exact ih _ (by omega)
          · exact hnil
      · split
        · exact hnil
        · split
          · rename_i h0 h2
            split
            · intro t ht
              simp only [List.mem_cons] at ht
              rcases ht with rfl | ht
              · rw [htk]; exact tokA_e s i htk
              · exact ih _ (by omega) t ht
            · exact hnil
          · exact hnil
theorem scanR_e (s : List UInt8) : TokE (scanR s).1 := by
 unfold scanR; split
 · exact fun t ht => by cases ht
 · exact scanT_e s _ 0 (Nat.le_refl _)
def EndN (x : PS) (u : Value) (es : List En) : Prop := ∃ (p : Option Addr) (n c : Nat) (e a : Int), u = .agg ⟨[.slice p n c, .int .i64 e, .int .i64 a]⟩ ∧ es = [] ∧ (x.e ≠ 0 → e = x.e ∧ a = x.a) ∧ (x.e = 0 → (hdT x.l).1 = 0 → e = 0) ∧ (x.e = 0 → (hdT x.l).1 ≠ 0 → e = (oddE (hdT x.l)).1 ∧ a = (oddE (hdT x.l)).2)
section
variable (g : Nat) (x : PS) (w : World)
set_option maxRecDepth 20000 in
theorem rq_on0 (hx : x.Ok) (he : x.e = 0) : Calls Tryz.prog 60 #[.agg ⟨ptW g x⟩] w (PostN w fun u es => ∃ (p : Option Addr) (n c : Nat), u = .agg ⟨[.slice p n c, .int .i64 x.e, .int .i64 x.a]⟩ ∧ es = []) := by
 have hlc := hx.le
 have hne := hx.ne
 by_cases hq : 1 < x.c
 · refine sy_enter rfl rfl ?_
   simp only [initFr]
   repeat (first | refine yK ?_ | (refine yX ?_; intro _) | (refine yA ?_; intro _))
   refine sy_draw 5 (by kernel_rfl) ?_
   repeat (first | refine dr_op (ov_ld 1 rfl rfl rfl) rfl rfl ?_ | refine dr_op (ov_fieldAddr rfl rfl rfl) rfl rfl ?_)
   refine dr_op (ov_slLo rfl rfl (by decide) ?_ ?_) rfl rfl ?_
   focus omega
   focus omega
   repeat (first | refine dr_op (ov_ld 1 rfl rfl rfl) rfl rfl ?_ | refine dr_op (ov_fieldAddr rfl rfl rfl) rfl rfl ?_ | refine dr_end ?_)
   repeat (first | refine yK ?_ | refine yS 0 ?_ | refine yB ?_ | refine sy_rt ?_)
   exact ret1cw 0 rfl rfl rfl rfl rfl fun w' hw' => ⟨_, _, ⟨_, _, _, rfl, rfl⟩, rfl, hw'.weaken nl⟩
 · refine sy_enter rfl rfl ?_
   simp only [initFr]
   repeat (first | refine yK ?_ | (refine yX ?_; intro _) | (refine yA ?_; intro _))
   refine sy_draw 5 (by kernel_rfl) ?_
   repeat (first | refine dr_op (ov_ld 1 rfl rfl rfl) rfl rfl ?_ | refine dr_op (ov_fieldAddr rfl rfl rfl) rfl rfl ?_)
   refine dr_op (ov_slEq rfl rfl (by decide) ?_ ?_) rfl rfl ?_
   focus omega
   focus omega
   repeat (first | refine dr_op (ov_ld 1 rfl rfl rfl) rfl rfl ?_ | refine dr_op (ov_fieldAddr rfl rfl rfl) rfl rfl ?_ | refine dr_end ?_)
   repeat (first | refine yK ?_ | refine yS 0 ?_ | refine yB ?_ | refine sy_rt ?_)
   exact ret1cw 0 rfl rfl rfl rfl rfl fun w' hw' => ⟨_, _, ⟨_, _, _, rfl, rfl⟩, rfl, hw'.weaken nl⟩
set_option maxRecDepth 20000 in
theorem rq_need0 (hx : x.Ok) (hE : (hdT x.l).1 = 0 → (hdT x.l).2.2.2.1 = []) (hT : TkAt g x w) : Calls Tryz.prog 30 #[.agg ⟨ptW g x⟩, .int .i64 0, S []] w (PostN w (EndN x)) := by
 have hst : St (fun _ => False) w (fun w => TkAt g x w) := St.start (TkAt.bl g x) hT
 by_cases he : x.e = 0
 · by_cases h0 : (hdT x.l).1 = 0
   · have hb : x.isK 0 [] = true := by unfold PS.isK; simp [h0, hE h0]
     refine sy_enter rfl rfl ?_
     simp only [initFr]
     repeat (first | refine yK ?_ | refine yL 1 ?_ | (refine yX ?_; intro _) | (refine yA ?_; intro _))
     refine sy_ov (ov_call rfl (fun w _ => rq_fine g x w true (by simp [he]))) rfl rfl ?_
     repeat (first | refine yK ?_ | refine yP ?_ | refine yL 1 ?_ | refine yN ?_)
     refine sy_ov (ov_call rfl (fun w hw => rq_is g x w hx (hst.at hw) 0 [])) rfl rfl ?_
     rw [hb]
     repeat (first | refine yK ?_ | refine yP ?_ | refine yL 1 ?_ | refine yN ?_)
     refine sy_callN rfl rfl (fun w hw => rq_on0 g x w hx he) ?_
     rintro _ _ ⟨vp, vn, vc, rfl, rfl⟩
     simp only [List.nil_append]
     repeat (first | refine yK ?_ | refine yS 0 ?_ | refine sy_rt ?_)
     exact ret1cw 0 rfl rfl rfl rfl rfl fun w' hw' => ⟨_, _, ⟨vp, vn, vc, x.e, x.a, rfl, rfl, fun h => absurd he h, fun _ _ => he, fun _ h => absurd h0 h⟩, rfl, hw'.weaken nl⟩
   · have hb : x.isK 0 [] = false := by unfold PS.isK; simp [h0]
     have hodd : x.odd = ⟨x.off, x.l, x.c, x.m, (oddE (hdT x.l)).1, (oddE (hdT x.l)).2⟩ := by unfold PS.odd PS.fail; rw [if_pos he]; rfl
     have hwr := fun w h => rq_wrong g x w hx h
     rw [hodd] at hwr
     refine sy_enter rfl rfl ?_
     simp only [initFr]
     repeat (first | refine yK ?_ | refine yL 1 ?_ | (refine yX ?_; intro _) | (refine yA ?_; intro _))
     refine sy_ov (ov_call rfl (fun w _ => rq_fine g x w true (by simp [he]))) rfl rfl ?_
     repeat (first | refine yK ?_ | refine yP ?_ | refine yL 1 ?_ | refine yN ?_)
     refine sy_ov (ov_call rfl (fun w hw => rq_is g x w hx (hst.at hw) 0 [])) rfl rfl ?_
     rw [hb]
     repeat (first | refine yK ?_ | refine yP ?_ | refine yL 1 ?_ | refine yT ?_)
     refine sy_ov (ov_call rfl (fun w hw => hwr w (hst.at hw))) rfl rfl ?_
     repeat (first | refine yK ?_ | refine yS 0 ?_ | refine sy_rt ?_)
     exact ret1cw 0 rfl rfl rfl rfl rfl fun w' hw' => ⟨_, [], ⟨_, _, _, _, _, rfl, rfl, fun h => absurd he h, fun _ h => absurd h h0, fun _ _ => ⟨rfl, rfl⟩⟩, rfl, hw'.weaken nl⟩
 · refine sy_enter rfl rfl ?_
   simp only [initFr]
   repeat (first | refine yK ?_ | refine yL 1 ?_ | (refine yX ?_; intro _) | (refine yA ?_; intro _))
   refine sy_ov (ov_call rfl (fun w _ => rq_fine g x w false (by simp [he]))) rfl rfl ?_
   repeat (first | refine yK ?_ | refine yP ?_ | refine yL 1 ?_ | refine yS 0 ?_ | refine yT ?_ | refine sy_rt ?_)
   exact ret1cw 0 rfl rfl rfl rfl rfl fun w' hw' => ⟨_, [], ⟨_, _, _, _, _, rfl, rfl, fun _ => ⟨rfl, rfl⟩, fun h => absurd h he, fun h => absurd h he⟩, rfl, hw'.weaken nl⟩
set_option maxRecDepth 20000 in
theorem rq_fine2 (v : Value) (e a : Int) (b : Bool) (hb : decide (e = 0) = b) : Calls Tryz.prog 31 #[.agg ⟨[v, .int .i64 e, .int .i64 a]⟩] w fun u w' => u = .returned (.bool b) ∧ Below w.heap.size w w' := by
 subst hb
 refine sy_enter rfl rfl ?_
 simp only [initFr]
 repeat (first | refine yK ?_ | refine yP ?_ | refine yL 0 ?_ | refine yF ?_ | (refine yX ?_; intro _) | refine sy_rt ?_)
 exact ret1 rfl rfl rfl
end
end Go.Proofs.YtldjakeigjngoaaGreat