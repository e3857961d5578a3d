/- blindfoldlaw16.SyntaxTypes answers true for every input and leaves what it is given as it was: Type returns the type or the fault that the chapter specifies. No condition. -/
/- LawSyntaxTypesQ: texts of this proof, joined by program: RSyn12, RSyn13, WalkSynTypes, LawSyntaxTypes. -/
import Derived.Test.YtldjakeigjngoaaGreatBSV
import Derived.Test.YtldjakeigjngoaaGreatBST
import Derived.Test.YtldjakeigjngoaaGreatBRX
import Derived.Test.YtldjakeigjngoaaGreatBSU
import Derived.Test.YtldjakeigjngoaaGreatFactsQ
import Derived.ProofKit
import Derived.OpenShut
import Derived.ShutString
import Derived.ChangeOld
import Derived.Below
import Derived.SizedLaws
/- Contract: types that are the same are held to be, by the document. -/
set_option linter.unusedVariables false
set_option linter.unusedSimpArgs false
namespace Go.Proofs.YtldjakeigjngoaaGreat
open Go.RowKit Bf
theorem ws_st {w : World} {a : WsA} (h : WsJ w a) : St (fun _ => False) w (fun w => WsJ w a) := St.start (fun _ _ hb h => WsJ.bl hb h) h
theorem eqW (x : WordT) : eqL (wordV x) (wordV x) = true := by rw [eqL_word]; simp
set_option maxRecDepth 20000 in
theorem rq_words (a b : WsA) (w : World) (ha : WsJ w a) (hb : WsJ w b) (he : a.l = b.l) : Calls Tryz.prog 32 #[wsV a, wsV b] w fun u w' => u = .returned (.bool true) ∧ Below w.heap.size w w' := by
 obtain ⟨pa, ca, l⟩ := a
 obtain ⟨pb, cb, l2⟩ := b
 simp only at he
 subst he
 have hm : l.length ≤ 9223372036854775807 := ha.1
 have hsw : St (fun _ => False) w (fun w => IsSl w 2 pa l.length (l.flatMap wordV)) := St.start (IsSl.bl _ _ _ _) ha.2
 have hsw' : St (fun _ => False) w (fun w => IsSl w 2 pb l.length (l.flatMap wordV)) := St.start (IsSl.bl _ _ _ _) hb.2
 simp only [wsV]
 refine sy_enter rfl rfl ?_
 simp only [initFr]
 repeat (first | refine yK ?_ | (refine gO ?_; first | refine yP ?_ | (refine gK ?_; refine sy_ov (ov_lens rfl) rfl rfl ?_)) | refine yN ?_)
 refine sy_loop (α := Int) (fun i => [(0, .slice pa l.length ca), (1, .slice pb l.length cb), (5, .int .i64 i)]) (fun _ => []) (fun i => 0 ≤ i ∧ i ≤ l.length) (fun i => (l.length - i).toNat) 0 ⟨by omega, by omega⟩ ⟨⟨_, rfl, rfl⟩, ⟨_, rfl, rfl⟩, ⟨_, rfl, rfl⟩, trivial⟩ sr ?_
 rintro i ⟨i0, i1⟩
 by_cases hlt : i < l.length
 · obtain ⟨x, hx⟩ : ∃ x, l[i.toNat]? = some x := ⟨_, List.getElem?_eq_getElem (by omega)⟩
   obtain ⟨b, off, hp, hat⟩ := hsw.addr (by omega)
   obtain ⟨b', off', hp', hat'⟩ := hsw'.addr (by omega)
   subst hp
   subst hp'
   repeat (first | refine yK ?_ | (refine gO ?_; first | refine yP ?_ | (refine gK ?_; refine sy_ov (ov_lens rfl) rfl rfl ?_)) | refine yT ?_)
   refine sy_draw 8 (by kernel_rfl) ?_
   repeat (first | refine dr_op (ov_p rfl) rfl rfl ?_ | (refine dr_op (ov_indexAddr rfl rfl ?_ ?_) rfl rfl ?_; omega; omega))
   refine dr_op (ov_elem (f := wordV) hat hx rfl rfl (fun _ => rfl)) rfl rfl ?_
   repeat (first | refine dr_op (ov_p rfl) rfl rfl ?_ | (refine dr_op (ov_indexAddr rfl rfl ?_ ?_) rfl rfl ?_; omega; omega))
   refine dr_op (ov_elem (f := wordV) hat' hx rfl rfl (fun _ => rfl)) rfl rfl ?_
   repeat (refine dr_end ?_)
   refine sy_ov (ov_nest (xs := wordV x) (ys := wordV x) rfl rfl rfl rfl) rfl rfl ?_
   rw [eqW]
   repeat (first | refine yK ?_ | (refine gO ?_; first | refine yP ?_ | (refine gB ?_; (refine sy_ov (ov_ar rfl rfl rfl ?_ ?_) rfl rfl ?_; omega; omega))) | refine yN ?_)
   refine sy_back (i + 1) ⟨by omega, by omega⟩ (by omega) ⟨⟨_, rfl, rfl⟩, ⟨_, rfl, rfl⟩, ⟨_, rfl, rfl⟩, trivial⟩ sr
 · repeat (first | refine yK ?_ | (refine gO ?_; first | refine yP ?_ | (refine gK ?_; refine sy_ov (ov_lens rfl) rfl rfl ?_)) | refine yN ?_ | refine sy_rt ?_)
   exact ret1 rfl rfl rfl
theorem sizeT_part {k a lo hi most : Int} {ns : WsA} {pp : Option Addr} {cp : Nat} {parts : List PrtA} {nm : WordT} {nm' : WordT} {bare : Bool} {lab : WsA} {wide ck cn ca : Int} {cl : WsA} {ty : TypA} (h : PrtA.mk nm' bare lab wide ck cn ca cl ty ∈ parts) : SizeOf.sizeOf ty < SizeOf.sizeOf (TypA.mk k a lo hi most ns pp cp parts nm) := by
 have := List.sizeOf_lt_of_mem h
 simp at this ⊢; omega
set_option maxRecDepth 20000 in
set_option maxHeartbeats 8000000 in
theorem rq_same : ∀ (m : Nat) (z : TypA), SizeOf.sizeOf z ≤ m → ∀ (z2 : TypA) (w : World), TypJ w z → TypJ w z2 → plT z = plT z2 → Calls Tryz.prog 13 #[.agg ⟨typV z⟩, .agg ⟨typV z2⟩] w fun e w' => e = .returned (.bool true) ∧ Below w.heap.size w w' := by
 intro m
 induction m with
 | zero => intro z hz; cases z; simp at hz
 | succ m ih =>
  intro z hz z2 w hw1 hw2 hpl
  obtain ⟨k, a, lo, hi, most, ns, pp, cp, parts, nm⟩ := z
  obtain ⟨k', a', lo', hi', most', ns', pp', cp', parts', nm'⟩ := z2
  simp only [plT, TypP.mk.injEq] at hpl
  obtain ⟨rfl, rfl, rfl, rfl, rfl, hns, hps, rfl⟩ := hpl
  simp only [TypJ] at hw1 hw2
  obtain ⟨w1, hm, hs, hj⟩ := hw1
  obtain ⟨w2, hm', hs', hj'⟩ := hw2
  have hlen : parts.length = parts'.length := by have := congrArg List.length hps; rwa [plPs_len, plPs_len] at this
  have hmm : parts.length ≤ 9223372036854775807 := hm
  have sw1 := ws_st w1
  have sw2 := ws_st w2
  have hst : St (fun _ => False) w (fun w => IsSl w 18 pp parts.length (parts.flatMap prtV)) := St.start (IsSl.bl _ _ _ _) hs
  have hst' : St (fun _ => False) w (fun w => IsSl w 18 pp' parts'.length (parts'.flatMap prtV)) := St.start (IsSl.bl _ _ _ _) hs'
  have hsj : St (fun _ => False) w (fun w => PrtsJ w parts) := St.start (fun _ _ hb h => PrtsJ.bl' hb _ h) hj
  have hsj' : St (fun _ => False) w (fun w => PrtsJ w parts') := St.start (fun _ _ hb h => PrtsJ.bl' hb _ h) hj'
  rw [← hlen] at hst'
  simp only [typV]
  rw [← hlen]
  refine sy_enter rfl rfl ?_
  simp only [initFr]
  repeat (first | refine yK ?_ | (refine gO ?_; first | refine yP ?_ | (refine gG ?_; refine yG ?_) | (refine gL ?_; first | refine yL 0 ?_ | refine yL 1 ?_) | refine yE ?_ | refine yF ?_ | (refine sy_box rfl rfl rfl ?_; intro _)))
  refine sy_ov (ov_nest (xs := wordV nm) (ys := wordV nm) rfl rfl rfl rfl) rfl rfl ?_
  rw [eqW]
  repeat ((refine gO ?_; first | refine yP ?_ | (refine gG ?_; refine yG ?_) | (refine gL ?_; first | refine yL 0 ?_ | refine yL 1 ?_) | refine yE ?_ | refine yF ?_))
  refine sy_ov (ov_call rfl (fun w hw => rq_words ns ns' w (sw1.at hw) (sw2.at hw) hns)) rfl rfl ?_
  repeat (first | refine yK ?_ | (refine gO ?_; first | refine yP ?_ | (refine gG ?_; refine yG ?_) | (refine gK ?_; refine sy_ov (ov_lens rfl) rfl rfl ?_) | (refine gL ?_; first | refine yL 0 ?_ | refine yL 1 ?_) | refine yE ?_ | refine yF ?_) | refine yN ?_)
  rename_i b2 b3
  refine sy_loop (α := Int) (fun i => [(2, .pointer (some ⟨b2, 0, none⟩)), (3, .pointer (some ⟨b3, 0, none⟩)), (5, .int .i64 i)]) (fun _ => [blk b3 38 [.int .i64 k, .int .i64 a, .int .i64 lo, .int .i64 hi, .int .i64 most, wsV ns', .slice pp' parts.length cp', S nm.1, .int .i64 nm.2], blk b2 38 [.int .i64 k, .int .i64 a, .int .i64 lo, .int .i64 hi, .int .i64 most, wsV ns, .slice pp parts.length cp, S nm.1, .int .i64 nm.2]]) (fun i => 0 ≤ i ∧ i ≤ parts.length) (fun i => (parts.length - i).toNat) 0 ⟨by omega, by omega⟩ ⟨⟨_, rfl, rfl⟩, ⟨_, rfl, rfl⟩, ⟨_, rfl, rfl⟩, trivial⟩ sr ?_
  rintro i ⟨i0, i1⟩
  by_cases hlt : i < parts.length
  · obtain ⟨x, hx⟩ : ∃ x, parts[i.toNat]? = some x := ⟨_, List.getElem?_eq_getElem (by omega)⟩
    obtain ⟨y, hy⟩ : ∃ y, parts'[i.toNat]? = some y := ⟨_, List.getElem?_eq_getElem (by omega)⟩
    have hxy : plP x = plP y := by
     have e1 := plPs_get parts i.toNat
     have e2 := plPs_get parts' i.toNat
     rw [hx] at e1
     rw [hy, ← hps, e1] at e2
     simpa using e2
    have hxm := List.mem_of_getElem? hx
    obtain ⟨b, off, hp, hat⟩ := hst.addr (by omega)
    obtain ⟨b', off', hp', hat'⟩ := hst'.addr (by omega)
    subst hp
    subst hp'
    have jx : St (fun _ => False) w (fun w => PrtJ w x) := fun w' hk => (hsj w' hk).get hx
    have jy : St (fun _ => False) w (fun w => PrtJ w y) := fun w' hk => (hsj' w' hk).get hy
    obtain ⟨xn, xb, xlab, xw, xk, xq, xa, xcl, ty⟩ := x
    obtain ⟨yn, yb, ylab, yw, yk, yq, ya, ycl, uy⟩ := y
    simp only [plP, PrtP.mk.injEq, Prod.mk.injEq] at hxy
    obtain ⟨rfl, rfl, hlab, rfl, ⟨rfl, rfl, rfl, hcl⟩, hty⟩ := hxy
    simp only [PrtJ] at jx jy
    have hsz := sizeT_part (k := k) (a := a) (lo := lo) (hi := hi) (most := most) (ns := ns) (pp := some ⟨b, off, none⟩) (cp := cp) (nm := nm) hxm
    have hrec := fun w => ih ty (by omega) uy w
    obtain ⟨tk, ta, tlo, thi, tmo, tns, tpp, tcp, tparts, tn⟩ := ty
    obtain ⟨uk, ua, ulo, uhi, umo, uns, upp, ucp, uparts, un⟩ := uy
    repeat (first | refine yK ?_ | (refine gO ?_; first | refine yP ?_ | (refine gK ?_; refine sy_ov (ov_lens rfl) rfl rfl ?_) | (refine gL ?_; refine yL 1 ?_) | refine yF ?_) | refine yT ?_)
    refine sy_two 10 11 (by kernel_rfl) ?_ ?_
    · refine any_drawE _ 13 [(0, false), (1, false), (2, false), (3, false), (4, false), (5, false), (6, false), (7, false), (8, false), (9, false), (10, true), (11, true), (12, true)] (by kernel_rfl) rfl sr ?_
      repeat (first | refine dre_rd (fun _ _ => ov_p rfl) rfl ?_ | refine dre_rd (fun _ _ => ov_ld 1 rfl rfl rfl) rfl ?_ | refine dre_rd (fun _ _ => ov_fieldAddr rfl rfl rfl) rfl ?_ | (refine dre_rd (fun _ _ => ov_indexAddr rfl rfl ?_ ?_) rfl ?_; omega; omega))
      refine dre_rd (fun _ hC => ov_elem (f := prtV) (hat.le2 hC) hx rfl rfl prtV_len) rfl ?_
      repeat (first | refine dre_rd (fun _ _ => ov_p rfl) rfl ?_ | refine dre_rd (fun _ _ => ov_ld 0 rfl rfl rfl) rfl ?_ | refine dre_rd (fun _ _ => ov_fieldAddr rfl rfl rfl) rfl ?_ | (refine dre_rd (fun _ _ => ov_indexAddr rfl rfl ?_ ?_) rfl ?_; omega; omega))
      refine dre_rd (fun _ hC => ov_elem (f := prtV) (hat'.le2 hC) hy rfl rfl prtV_len) rfl ?_
      simp only [prtV, typV, List.cons_append, List.nil_append]
      skip
      refine dre_ef rfl ?_
      refine yA ?_
      intro nb1
      refine dre_ek (sd sr) ?_
      skip
      refine dre_ef rfl ?_
      refine yA ?_
      intro nb2
      refine dre_ek (sd (sd sr)) ?_
      repeat (first | (refine dre_ef rfl ?_; refine yS 1 ?_; refine dre_ek (by repeat first | exact sr | apply sk | apply sd) ?_) | refine dre_end ?_)
      refine sy_cells 1 (prtC xn xb xlab xw xk xq xa xcl (typV (.mk tk ta tlo thi tmo tns tpp tcp tparts tn))) rfl (upd0 _ _ rfl) ?_
      refine yS 0 ?_
      refine sy_cells 0 (prtC xn xb ylab xw xk xq xa ycl (typV (.mk uk ua ulo uhi umo uns upp ucp uparts un))) rfl (upd0 _ _ rfl) ?_
      simp only [prtC, typV, List.set_cons_zero, List.set_cons_succ, List.cons_append, List.nil_append]
      refine sy_frame [(2, .pointer (some ⟨b2, 0, none⟩)), (3, .pointer (some ⟨b3, 0, none⟩)), (5, .int .i64 i), (6, .pointer (some ⟨nb1, 0, none⟩)), (7, .pointer (some ⟨nb2, 0, none⟩))] ⟨⟨_, rfl, rfl⟩, ⟨_, rfl, rfl⟩, ⟨_, rfl, rfl⟩, ⟨_, rfl, rfl⟩, ⟨_, rfl, rfl⟩, trivial⟩ ?_
      repeat (first | refine yK ?_ | (refine gO ?_; first | (refine gL ?_; first | refine yL 0 ?_ | refine yL 1 ?_) | refine yF ?_))
      refine sy_ov (ov_nest (xs := wordV xn) (ys := wordV xn) rfl rfl rfl rfl) rfl rfl ?_
      rw [eqW]
      repeat ((refine gO ?_; first | refine yP ?_ | (refine gG ?_; refine yG ?_) | (refine gB ?_; refine sy_ov (ov_neb rfl rfl) rfl rfl ?_) | (refine gL ?_; first | refine yL 0 ?_ | refine yL 1 ?_) | refine yE ?_ | refine yF ?_))
      refine sy_ov (ov_call rfl (fun w hw => rq_words xlab ylab w (jx.at hw).1 (jy.at hw).1 hlab)) rfl rfl ?_
      repeat ((refine gO ?_; first | refine yP ?_ | (refine gG ?_; refine yG ?_) | (refine gL ?_; first | refine yL 0 ?_ | refine yL 1 ?_) | refine yE ?_ | refine yF ?_))
      refine sy_ov (ov_call rfl (fun w hw => rq_words xcl ycl w (jx.at hw).2.1 (jy.at hw).2.1 hcl)) rfl rfl ?_
      repeat ((refine gO ?_; first | refine yP ?_ | (refine gG ?_; refine yG ?_) | (refine gL ?_; first | refine yL 0 ?_ | refine yL 1 ?_) | refine yE ?_ | refine yF ?_))
      refine sy_ov (ov_call rfl (fun w hw => hrec w (jx.at hw).2.2 (jy.at hw).2.2 hty)) rfl rfl ?_
      repeat (first | refine yK ?_ | (refine gO ?_; first | refine yP ?_ | (refine gG ?_; refine yG ?_) | (refine gB ?_; (refine sy_ov (ov_ar rfl rfl rfl ?_ ?_) rfl rfl ?_; omega; omega)) | refine yE ?_) | refine yN ?_)
      refine sy_back (i + 1) ⟨by omega, by omega⟩ (by omega) ⟨⟨_, rfl, rfl⟩, ⟨_, rfl, rfl⟩, ⟨_, rfl, rfl⟩, trivial⟩ (sd (sd sr))
    · refine any_drawE _ 13 [(0, false), (1, false), (2, false), (3, false), (4, false), (5, false), (6, false), (7, false), (8, false), (9, false), (11, true), (10, true), (12, true)] (by kernel_rfl) rfl sr ?_
      repeat (first | refine dre_rd (fun _ _ => ov_p rfl) rfl ?_ | refine dre_rd (fun _ _ => ov_ld 1 rfl rfl rfl) rfl ?_ | refine dre_rd (fun _ _ => ov_fieldAddr rfl rfl rfl) rfl ?_ | (refine dre_rd (fun _ _ => ov_indexAddr rfl rfl ?_ ?_) rfl ?_; omega; omega))
      refine dre_rd (fun _ hC => ov_elem (f := prtV) (hat.le2 hC) hx rfl rfl prtV_len) rfl ?_
      repeat (first | refine dre_rd (fun _ _ => ov_p rfl) rfl ?_ | refine dre_rd (fun _ _ => ov_ld 0 rfl rfl rfl) rfl ?_ | refine dre_rd (fun _ _ => ov_fieldAddr rfl rfl rfl) rfl ?_ | (refine dre_rd (fun _ _ => ov_indexAddr rfl rfl ?_ ?_) rfl ?_; omega; omega))
      refine dre_rd (fun _ hC => ov_elem (f := prtV) (hat'.le2 hC) hy rfl rfl prtV_len) rfl ?_
      simp only [prtV, typV, List.cons_append, List.nil_append]
      skip
      refine dre_ef rfl ?_
      refine yA ?_
      intro nb1
      refine dre_ek (sd sr) ?_
      skip
      refine dre_ef rfl ?_
      refine yA ?_
      intro nb2
      refine dre_ek (sd (sd sr)) ?_
      repeat (first | (refine dre_ef rfl ?_; refine yS 0 ?_; refine dre_ek (by repeat first | exact sr | apply sk | apply sd) ?_) | refine dre_end ?_)
      refine sy_cells 0 (prtC xn xb xlab xw xk xq xa xcl (typV (.mk tk ta tlo thi tmo tns tpp tcp tparts tn))) rfl (upd0 _ _ rfl) ?_
      refine yS 1 ?_
      refine sy_cells 1 (prtC xn xb ylab xw xk xq xa ycl (typV (.mk uk ua ulo uhi umo uns upp ucp uparts un))) rfl (upd0 _ _ rfl) ?_
      simp only [prtC, typV, List.set_cons_zero, List.set_cons_succ, List.cons_append, List.nil_append]
      refine sy_frame [(2, .pointer (some ⟨b2, 0, none⟩)), (3, .pointer (some ⟨b3, 0, none⟩)), (5, .int .i64 i), (6, .pointer (some ⟨nb2, 0, none⟩)), (7, .pointer (some ⟨nb1, 0, none⟩))] ⟨⟨_, rfl, rfl⟩, ⟨_, rfl, rfl⟩, ⟨_, rfl, rfl⟩, ⟨_, rfl, rfl⟩, ⟨_, rfl, rfl⟩, trivial⟩ ?_
      repeat (first | refine yK ?_ | (refine gO ?_; first | (refine gL ?_; first | refine yL 0 ?_ | refine yL 1 ?_) | refine yF ?_))
      refine sy_ov (ov_nest (xs := wordV xn) (ys := wordV xn) rfl rfl rfl rfl) rfl rfl ?_
      rw [eqW]
      repeat ((refine gO ?_; first | refine yP ?_ | (refine gG ?_; refine yG ?_) | (refine gB ?_; refine sy_ov (ov_neb rfl rfl) rfl rfl ?_) | (refine gL ?_; first | refine yL 0 ?_ | refine yL 1 ?_) | refine yE ?_ | refine yF ?_))
      refine sy_ov (ov_call rfl (fun w hw => rq_words xlab ylab w (jx.at hw).1 (jy.at hw).1 hlab)) rfl rfl ?_
      repeat ((refine gO ?_; first | refine yP ?_ | (refine gG ?_; refine yG ?_) | (refine gL ?_; first | refine yL 0 ?_ | refine yL 1 ?_) | refine yE ?_ | refine yF ?_))
      refine sy_ov (ov_call rfl (fun w hw => rq_words xcl ycl w (jx.at hw).2.1 (jy.at hw).2.1 hcl)) rfl rfl ?_
      repeat ((refine gO ?_; first | refine yP ?_ | (refine gG ?_; refine yG ?_) | (refine gL ?_; first | refine yL 0 ?_ | refine yL 1 ?_) | refine yE ?_ | refine yF ?_))
      refine sy_ov (ov_call rfl (fun w hw => hrec w (jx.at hw).2.2 (jy.at hw).2.2 hty)) rfl rfl ?_
      repeat (first | refine yK ?_ | (refine gO ?_; first | refine yP ?_ | (refine gG ?_; refine yG ?_) | (refine gB ?_; (refine sy_ov (ov_ar rfl rfl rfl ?_ ?_) rfl rfl ?_; omega; omega)) | refine yE ?_) | refine yN ?_)
      refine sy_back (i + 1) ⟨by omega, by omega⟩ (by omega) ⟨⟨_, rfl, rfl⟩, ⟨_, rfl, rfl⟩, ⟨_, rfl, rfl⟩, trivial⟩ (sd (sd sr))
  · repeat (first | refine yK ?_ | (refine gO ?_; first | refine yP ?_ | (refine gK ?_; refine sy_ov (ov_lens rfl) rfl rfl ?_) | (refine gL ?_; refine yL 1 ?_) | refine yF ?_) | refine yN ?_ | refine sy_rt ?_)
    exact ret1 rfl rfl rfl
end Go.Proofs.YtldjakeigjngoaaGreat
/- Contract: the type of a text, as the document reads it. -/
namespace Go.Proofs.YtldjakeigjngoaaGreat
open Go.RowKit Bf
def TokE (l : List TokT) : Prop := ∀ t ∈ l, t.1 = 0 → t.2.2.2.1 = []
theorem tokA_e (s : List UInt8) (i : Nat) {t : TokT} {e p : Int} (h : tokA s i = (t, e, p)) : t.1 = 0 → t.2.2.2.1 = [] := by
 unfold tokA at h
 split at h
 · split at h
   · obtain ⟨rfl, rfl, rfl⟩ := tri_inj h; simp [ztk]
   · obtain ⟨rfl, rfl, rfl⟩ := tri_inj h; simp
 · split at h
   · obtain ⟨rfl, rfl, rfl⟩ := tri_inj h; simp
   · split at h
     · split at h
       · obtain ⟨rfl, rfl, rfl⟩ := tri_inj h; simp [ztk]
       · obtain ⟨rfl, rfl, rfl⟩ := tri_inj h; simp
     · split at h
       · split at h
         · obtain ⟨rfl, rfl, rfl⟩ := tri_inj h; simp [ztk]
         · obtain ⟨rfl, rfl, rfl⟩ := tri_inj h; simp
       · obtain ⟨rfl, rfl, rfl⟩ := tri_inj h; simp [ztk]
theorem scanT_e (s : List UInt8) : ∀ (m i : Nat), s.length - i ≤ m → TokE (scanT s i).1 := by
 intro m
 induction m with
 | zero => intro i h; rw [scanT_end s i (by omega)]; intro t ht; simp only [List.mem_singleton] at ht; subst ht; simp
 | succ m ih =>
  intro i h
  have hnil : TokE [] := fun t ht => by cases ht
  by_cases he : s.length ≤ i
  · rw [scanT_end s i he]; intro t ht; simp only [List.mem_singleton] at ht; subst ht; simp
  · obtain ⟨tk, e0, p0, htk⟩ : ∃ t e p, tokA s i = (t, e, p) := ⟨_, _, _, rfl⟩
    rw [scanT, dif_neg he]
    split
    · exact ih (i + 1) (by omega)
    · split
      · split
        · exact hnil
        · split
          · exact ih _ (by omega)
          · exact hnil
      · split
        · exact hnil
        · split
          · rename_i h0 h2
            split
            · intro t ht
              simp only [List.mem_cons] at ht
              rcases ht with rfl | ht
              · rw [htk]; exact tokA_e s i htk
              · exact ih _ (by omega) t ht
            · exact hnil
          · exact hnil
theorem scanR_e (s : List UInt8) : TokE (scanR s).1 := by
 unfold scanR; split
 · exact fun t ht => by cases ht
 · exact scanT_e s _ 0 (Nat.le_refl _)
def EndN (x : PS) (u : Value) (es : List En) : Prop := ∃ (p : Option Addr) (n c : Nat) (e a : Int), u = .agg ⟨[.slice p n c, .int .i64 e, .int .i64 a]⟩ ∧ es = [] ∧ (x.e ≠ 0 → e = x.e ∧ a = x.a) ∧ (x.e = 0 → (hdT x.l).1 = 0 → e = 0) ∧ (x.e = 0 → (hdT x.l).1 ≠ 0 → e = (oddE (hdT x.l)).1 ∧ a = (oddE (hdT x.l)).2)
section
variable (g : Nat) (x : PS) (w : World)
set_option maxRecDepth 20000 in
theorem rq_on0 (hx : x.Ok) (he : x.e = 0) : Calls Tryz.prog 60 #[.agg ⟨ptW g x⟩] w (PostN w fun u es => ∃ (p : Option Addr) (n c : Nat), u = .agg ⟨[.slice p n c, .int .i64 x.e, .int .i64 x.a]⟩ ∧ es = []) := by
 have hlc := hx.le
 have hne := hx.ne
 by_cases hq : 1 < x.c
 · refine sy_enter rfl rfl ?_
   simp only [initFr]
   repeat (first | refine yK ?_ | (refine gO ?_; first | (refine sy_box rfl rfl rfl ?_; intro _) | (refine yA ?_; intro _)))
   refine sy_draw 5 (by kernel_rfl) ?_
   repeat (first | refine dr_op (ov_ld 1 rfl rfl rfl) rfl rfl ?_ | refine dr_op (ov_fieldAddr rfl rfl rfl) rfl rfl ?_)
   refine dr_op (ov_slLo rfl rfl (by decide) ?_ ?_) rfl rfl ?_
   focus omega
   focus omega
   repeat (first | refine dr_op (ov_ld 1 rfl rfl rfl) rfl rfl ?_ | refine dr_op (ov_fieldAddr rfl rfl rfl) rfl rfl ?_ | refine dr_end ?_)
   repeat (first | refine yK ?_ | (refine gO ?_; first | (refine gS ?_; refine yS 0 ?_) | refine yB ?_) | refine sy_rt ?_)
   exact ret1cw 0 rfl rfl rfl rfl rfl fun w' hw' => ⟨_, _, ⟨_, _, _, rfl, rfl⟩, rfl, hw'.weaken (List.nil_sublist _)⟩
 · refine sy_enter rfl rfl ?_
   simp only [initFr]
   repeat (first | refine yK ?_ | (refine gO ?_; first | (refine sy_box rfl rfl rfl ?_; intro _) | (refine yA ?_; intro _)))
   refine sy_draw 5 (by kernel_rfl) ?_
   repeat (first | refine dr_op (ov_ld 1 rfl rfl rfl) rfl rfl ?_ | refine dr_op (ov_fieldAddr rfl rfl rfl) rfl rfl ?_)
   refine dr_op (ov_slEq rfl rfl (by decide) ?_ ?_) rfl rfl ?_
   focus omega
   focus omega
   repeat (first | refine dr_op (ov_ld 1 rfl rfl rfl) rfl rfl ?_ | refine dr_op (ov_fieldAddr rfl rfl rfl) rfl rfl ?_ | refine dr_end ?_)
   repeat (first | refine yK ?_ | (refine gO ?_; first | (refine gS ?_; refine yS 0 ?_) | refine yB ?_) | refine sy_rt ?_)
   exact ret1cw 0 rfl rfl rfl rfl rfl fun w' hw' => ⟨_, _, ⟨_, _, _, rfl, rfl⟩, rfl, hw'.weaken (List.nil_sublist _)⟩
set_option maxRecDepth 20000 in
theorem rq_need0 (hx : x.Ok) (hE : (hdT x.l).1 = 0 → (hdT x.l).2.2.2.1 = []) (hT : TkAt g x w) : Calls Tryz.prog 30 #[.agg ⟨ptW g x⟩, .int .i64 0, S []] w (PostN w (EndN x)) := by
 have hst : St (fun _ => False) w (fun w => TkAt g x w) := St.start (TkAt.bl g x) hT
 by_cases he : x.e = 0
 · by_cases h0 : (hdT x.l).1 = 0
   · have hb : x.isK 0 [] = true := by unfold PS.isK; simp [h0, hE h0]
     refine sy_enter rfl rfl ?_
     simp only [initFr]
     repeat (first | refine yK ?_ | (refine gO ?_; first | (refine gL ?_; refine yL 1 ?_) | (refine sy_box rfl rfl rfl ?_; intro _) | (refine yA ?_; intro _)))
     refine sy_ov (ov_call rfl (fun w _ => rq_fine g x w true (by simp [he]))) rfl rfl ?_
     repeat (first | refine yK ?_ | (refine gO ?_; first | refine yP ?_ | (refine gL ?_; refine yL 1 ?_)) | refine yN ?_)
     refine sy_ov (ov_call rfl (fun w hw => rq_is g x w hx (hst.at hw) 0 [])) rfl rfl ?_
     rw [hb]
     repeat (first | refine yK ?_ | (refine gO ?_; first | refine yP ?_ | (refine gL ?_; refine yL 1 ?_)) | refine yN ?_)
     refine sy_callN rfl rfl (fun w hw => rq_on0 g x w hx he) ?_
     rintro _ _ ⟨vp, vn, vc, rfl, rfl⟩
     simp only [List.nil_append]
     repeat (first | refine yK ?_ | (refine gO ?_; (refine gS ?_; refine yS 0 ?_)) | refine sy_rt ?_)
     exact ret1cw 0 rfl rfl rfl rfl rfl fun w' hw' => ⟨_, _, ⟨vp, vn, vc, x.e, x.a, rfl, rfl, fun h => absurd he h, fun _ _ => he, fun _ h => absurd h0 h⟩, rfl, hw'.weaken (List.nil_sublist _)⟩
   · have hb : x.isK 0 [] = false := by unfold PS.isK; simp [h0]
     have hodd : x.odd = ⟨x.off, x.l, x.c, x.m, (oddE (hdT x.l)).1, (oddE (hdT x.l)).2⟩ := by unfold PS.odd PS.fail; rw [if_pos he]; rfl
     have hwr := fun w h => rq_wrong g x w hx h
     rw [hodd] at hwr
     refine sy_enter rfl rfl ?_
     simp only [initFr]
     repeat (first | refine yK ?_ | (refine gO ?_; first | (refine gL ?_; refine yL 1 ?_) | (refine sy_box rfl rfl rfl ?_; intro _) | (refine yA ?_; intro _)))
     refine sy_ov (ov_call rfl (fun w _ => rq_fine g x w true (by simp [he]))) rfl rfl ?_
     repeat (first | refine yK ?_ | (refine gO ?_; first | refine yP ?_ | (refine gL ?_; refine yL 1 ?_)) | refine yN ?_)
     refine sy_ov (ov_call rfl (fun w hw => rq_is g x w hx (hst.at hw) 0 [])) rfl rfl ?_
     rw [hb]
     repeat (first | refine yK ?_ | (refine gO ?_; first | refine yP ?_ | (refine gL ?_; refine yL 1 ?_)) | refine yT ?_)
     refine sy_ov (ov_call rfl (fun w hw => hwr w (hst.at hw))) rfl rfl ?_
     repeat (first | refine yK ?_ | (refine gO ?_; (refine gS ?_; refine yS 0 ?_)) | refine sy_rt ?_)
     exact ret1cw 0 rfl rfl rfl rfl rfl fun w' hw' => ⟨_, [], ⟨_, _, _, _, _, rfl, rfl, fun h => absurd he h, fun _ h => absurd h h0, fun _ _ => ⟨rfl, rfl⟩⟩, rfl, hw'.weaken (List.nil_sublist _)⟩
 · refine sy_enter rfl rfl ?_
   simp only [initFr]
   repeat (first | refine yK ?_ | (refine gO ?_; first | (refine gL ?_; refine yL 1 ?_) | (refine sy_box rfl rfl rfl ?_; intro _) | (refine yA ?_; intro _)))
   refine sy_ov (ov_call rfl (fun w _ => rq_fine g x w false (by simp [he]))) rfl rfl ?_
   repeat (first | refine yK ?_ | (refine gO ?_; first | refine yP ?_ | (refine gL ?_; refine yL 1 ?_) | (refine gS ?_; refine yS 0 ?_)) | refine yT ?_ | refine sy_rt ?_)
   exact ret1cw 0 rfl rfl rfl rfl rfl fun w' hw' => ⟨_, [], ⟨_, _, _, _, _, rfl, rfl, fun _ => ⟨rfl, rfl⟩, fun h => absurd h he, fun h => absurd h he⟩, rfl, hw'.weaken (List.nil_sublist _)⟩
set_option maxRecDepth 20000 in
theorem rq_fine2 (v : Value) (e a : Int) (b : Bool) (hb : decide (e = 0) = b) : Calls Tryz.prog 31 #[.agg ⟨[v, .int .i64 e, .int .i64 a]⟩] w fun u w' => u = .returned (.bool b) ∧ Below w.heap.size w w' := by
 subst hb
 refine sy_enter rfl rfl ?_
 simp only [initFr]
 repeat (first | refine yK ?_ | (refine gO ?_; first | refine yP ?_ | (refine gL ?_; refine yL 0 ?_) | refine yF ?_ | (refine sy_box rfl rfl rfl ?_; intro _)) | refine sy_rt ?_)
 exact ret1 rfl rfl rfl
end
theorem typR_q {s : List UInt8} {L : List TokT} {y : TypP × PS} (hL : scanR s = (L, 0, 0)) (hT : TokOk L) (hr : Rv L (kndP L 24 cur0) y) (hy : y.2.Ok) :
 (y.2.e ≠ 0 → typR s = (ztP, y.2.e, y.2.a)) ∧ (y.2.e = 0 → (hdT y.2.l).1 = 0 → typR s = (y.1, 0, 0)) ∧ (y.2.e = 0 → (hdT y.2.l).1 ≠ 0 → typR s = (ztP, (oddE (hdT y.2.l)).1, (oddE (hdT y.2.l)).2)) := by
 have hc0 : CurOk L cur0 := ⟨by decide, by have := hT.n; simp only [cur0]; omega, by decide, by decide⟩
 have a1 := knd_adv hT 24 0 rfl cur0 hc0 rfl
 obtain ⟨h1, h2⟩ := hr
 have hR : typR s = if (endC L (kndP L 24 cur0).2).e ≠ 0 then (ztP, (endC L (kndP L 24 cur0).2).e, (endC L (kndP L 24 cur0).2).a) else ((kndP L 24 cur0).1, (endC L (kndP L 24 cur0).2).e, (endC L (kndP L 24 cur0).2).a) := by
  unfold typR; rw [hL]; simp
 rw [hR]
 refine ⟨fun he => ?_, fun he h0 => ?_, fun he h0 => ?_⟩
 · have hce : (kndP L 24 cur0).2.e ≠ 0 := by rw [← h1.e]; exact he
   have hn : endC L (kndP L 24 cur0).2 = (kndP L 24 cur0).2 := by unfold endC; rw [if_neg (fun h => hce h.1)]
   rw [hn, if_pos hce, ← h1.e, h1.a hce]
 · have hce : (kndP L 24 cur0).2.e = 0 := by rw [← h1.e]; exact he
   have hp := h1.hd a1.ok hce
   have hn : endC L (kndP L 24 cur0).2 = (kndP L 24 cur0).2 := by unfold endC; rw [if_neg (fun h => h.2 (by rw [← hp]; exact h0))]
   rw [hn, if_neg (fun h => h hce), hce, a1.za rfl rfl hce, h2 hce]
 · have hce : (kndP L 24 cur0).2.e = 0 := by rw [← h1.e]; exact he
   have hp := h1.hd a1.ok hce
   have hn : endC L (kndP L 24 cur0).2 = ⟨(kndP L 24 cur0).2.i, (kndP L 24 cur0).2.d, 4, (hdT y.2.l).2.1⟩ := by
    unfold endC; rw [if_pos ⟨hce, by rw [← hp]; exact h0⟩]
    unfold failT failAtT; rw [if_pos ⟨hce, by decide⟩, hp]
   rw [hn, if_pos (show (4 : Int) ≠ 0 by decide)]
   unfold oddE; rw [if_neg h0]
set_option maxRecDepth 20000 in
set_option maxHeartbeats 8000000 in
theorem rq_type (s : List UInt8) (hs : s.length ≤ 100000000) (w : World) : Calls Tryz.prog 12 #[S s] w (PostN w (TyP s)) := by
 obtain ⟨L, e, a, hL⟩ : ∃ L e a, scanR s = (L, e, a) := ⟨_, _, _, rfl⟩
 by_cases he : e = 0
 · subst he
   have ha := scanR_a0 hL
   subst ha
   have hT := (scanR_toks hL (scanR_cnt hL)).1
   have hZ : TokZ L := by have := scanR_nz s; rw [hL] at this; exact this
   have hE : TokE L := by have := scanR_e s; rw [hL] at this; exact this
   have hc0 : CurOk L cur0 := ⟨by decide, by have := hT.n; simp only [cur0]; omega, by decide, by decide⟩
   have hd : (24 : Int) - ((24 : Nat) : Int) = 0 := by decide
   refine sy_enter rfl rfl ?_
   simp only [initFr]
   repeat (first | refine yK ?_ | (refine gO ?_; first | refine yP ?_ | (refine yA ?_; intro _)))
   refine sy_calln rfl rfl (fun w _ => rscan_c s (by omega) w) ?_
   rintro _ _ ⟨p, q, rfl, rfl⟩
   rw [hL]
   dsimp only
   refine sy_vecAddr 0 rfl hT.n ?_
   rintro g rfl
   refine sy_vecMax 0 rfl fun hq hqm => ?_
   obtain ⟨x0, hx0⟩ : ∃ x0 : PS, x0 = ⟨0, L, q, 0, 0, 0⟩ := ⟨_, rfl⟩
   have hok : x0.Ok := by
    subst hx0
    exact ⟨hT.n, fun i t hi h0 => by
     have h1 := (List.getElem?_eq_some_iff.1 hi).1
     have h2 := not_congr (hT.fin i t hi)
     have := h2.1 h0
     simp only at h1 ⊢; omega, hq, hqm, fun t ht => (hT.bd t ht).2, hZ⟩
   have hk := rq_kind 24 (Nat.le_refl _) g x0
   have hrl : Rl L cur0 x0 := by subst hx0; exact ⟨rfl, fun h => absurd rfl h, fun _ => rfl⟩
   have hrv := knd_rel hT 24 0 rfl cur0 x0 hc0 rfl hrl
   have hqa := QA.knd 24 x0 hok
   obtain ⟨t1, t2, t3⟩ := typR_q hL hT hrv hqa.ok
   have htk : ∀ w, IsSl w 5 (some ⟨g, 0, none⟩) L.length (L.flatMap tokV) → TkAt g x0 w := fun w h => tk_of h hT.n (by rw [hx0]) (by rw [hx0])
   have hlen : x0.l.length ≤ 65537 := by rw [hx0]; exact hT.big
   have hmem : ∀ t ∈ (qknd 24 x0).2.l, t ∈ L := fun t ht => by
    obtain ⟨j, _, h2, _⟩ := hqa.on
    rw [h2] at ht
    have := List.mem_of_mem_drop ht
    rw [hx0] at this; exact this
   have hEy : (hdT (qknd 24 x0).2.l).1 = 0 → (hdT (qknd 24 x0).2.l).2.2.2.1 = [] := fun h => by
    obtain ⟨t, ht, hh⟩ := hqa.ok.hd
    rw [hh] at h ⊢
    exact hE t (hmem t (List.mem_of_getElem? ht)) h
   rw [hd] at hk
   rw [show ptW g x0 = ptW g ⟨0, L, q, 0, 0, 0⟩ by rw [hx0]] at hk
   repeat (first | refine yK ?_ | (refine gO ?_; first | refine yP ?_ | (refine gL ?_; refine yL 0 ?_) | (refine gS ?_; refine yS 0 ?_) | refine yF ?_ | refine yB ?_ | (refine yA ?_; intro _)) | refine yN ?_)
   refine sy_callN rfl rfl (fun w hw => hk w hok hlen (htk w (vec_isSl hw (i := 1) rfl))) ?_
   rintro _ _ ⟨z, rfl, hz, rfl⟩
   clear hk
   obtain ⟨zk, za, zlo, zhi, zmo, zns, zpp, zcp, zparts, znm⟩ := z
   simp only [List.cons_append, List.nil_append]
   repeat (first | refine yK ?_ | (refine gO ?_; first | refine yP ?_ | (refine gL ?_; refine yL 0 ?_) | (refine gS ?_; first | refine yS 0 ?_ | refine yS 1 ?_) | (refine yA ?_; intro _)))
   refine sy_cells 1 (tC zk za zlo zhi zmo (wsV zns) (.slice zpp zparts.length zcp) znm) rfl (upd0 _ _ rfl) ?_
   simp only [tC, List.set_cons_zero, List.set_cons_succ]
   refine sy_order [0, 1, 2, 5, 6, 4, 3] rfl rfl ?_
   simp only [List.set_cons_zero, List.set_cons_succ, List.filterMap_cons, List.filterMap_nil, List.getElem?_cons_zero, List.getElem?_cons_succ]
   refine sy_callN rfl rfl (fun w hw => rq_need0 g _ w hqa.ok hEy ((htk w (vec_isSl hw (i := 5) rfl)).on hqa.on)) ?_
   rintro _ _ ⟨vp, vn, vc, e2, a2, rfl, rfl, hA, hB, hC⟩
   simp only [List.nil_append]
   by_cases hye : (qknd 24 x0).2.e = 0
   · by_cases h0 : (hdT (qknd 24 x0).2.l).1 = 0
     · have hR := t2 hye h0
       have he2 : decide (e2 = 0) = true := by simpa using hB hye h0
       repeat (first | refine yK ?_ | (refine gO ?_; first | (refine gL ?_; refine yL 0 ?_) | (refine gS ?_; refine yS 0 ?_)))
       refine sy_ov (ov_call rfl (fun w _ => rq_fine2 w (.slice vp vn vc) e2 a2 true he2)) rfl rfl ?_
       repeat (first | refine yK ?_ | (refine gO ?_; first | refine yP ?_ | (refine gL ?_; refine yL 1 ?_) | (refine gS ?_; first | refine yS 3 ?_ | refine yS 4 ?_) | refine yB ?_) | refine yN ?_ | refine sy_rt ?_)
       exact ret_ccw 4 3 rfl rfl rfl rfl rfl rfl rfl rfl rfl fun w' hw' => ⟨_, _, ⟨.mk zk za zlo zhi zmo zns zpp zcp zparts znm, by rw [hR]; rfl, by rw [hR]; exact hz, rfl⟩, rfl, hw'.weaken (sd (sd (sk (List.nil_sublist _))))⟩
     · have hR := t3 hye h0
       obtain ⟨g1, g2⟩ := hC hye h0
       have hne2 : e2 ≠ 0 := by rw [g1]; exact oddE_ne _
       have hP : TyP s (.tuple #[.agg ⟨typV (.mk 0 0 0 0 0 ws0 none 0 [] zw)⟩, faultV e2 a2]) [typE (.mk 0 0 0 0 0 ws0 none 0 [] zw)] := ⟨.mk 0 0 0 0 0 ws0 none 0 [] zw, by rw [hR, g1, g2], by rw [hR]; simp only [plT, plPs]; rfl, rfl⟩
       have he2 : decide (e2 = 0) = false := by simpa using hne2
       repeat (first | refine yK ?_ | (refine gO ?_; first | (refine gL ?_; refine yL 0 ?_) | (refine gS ?_; refine yS 0 ?_)))
       refine sy_ov (ov_call rfl (fun w _ => rq_fine2 w (.slice vp vn vc) e2 a2 false he2)) rfl rfl ?_
       repeat (first | refine yK ?_ | (refine gO ?_; refine yP ?_) | refine yT ?_)
       refine sy_typN 0 0 0 0 0 zw ?_
       refine sy_drawE _ 4 [(0, false), (1, false), (2, false), (3, true)] (by kernel_rfl) rfl ((sd (sk (List.nil_sublist _)))) ?_
       repeat (first | refine dre_rd (fun _ _ => ov_ld 0 rfl rfl rfl) rfl ?_ | refine dre_rd (fun _ _ => ov_fieldAddr rfl rfl rfl) rfl ?_ | refine dre_rd (fun _ _ => ov_build rfl rfl rfl) rfl ?_ | (refine dre_ef rfl ?_; refine yS 5 ?_; refine dre_ek (by repeat first | exact sr | apply sk | apply sd) ?_) | refine dre_end ?_)
       repeat (first | refine yK ?_ | (refine gO ?_; (refine gS ?_; refine yS 4 ?_)) | refine sy_rt ?_)
       exact ret_ccw 5 4 rfl rfl rfl rfl rfl rfl rfl rfl rfl fun w' hw' => ⟨_, _, hP, rfl, hw'.weaken (sk (List.nil_sublist _))⟩
   · have hR := t1 hye
     obtain ⟨g1, g2⟩ := hA hye
     have hne2 : e2 ≠ 0 := by rw [g1]; exact hye
     have hP : TyP s (.tuple #[.agg ⟨typV (.mk 0 0 0 0 0 ws0 none 0 [] zw)⟩, faultV e2 a2]) [typE (.mk 0 0 0 0 0 ws0 none 0 [] zw)] := ⟨.mk 0 0 0 0 0 ws0 none 0 [] zw, by rw [hR, g1, g2], by rw [hR]; simp only [plT, plPs]; rfl, rfl⟩
     have he2 : decide (e2 = 0) = false := by simpa using hne2
     repeat (first | refine yK ?_ | (refine gO ?_; first | (refine gL ?_; refine yL 0 ?_) | (refine gS ?_; refine yS 0 ?_)))
     refine sy_ov (ov_call rfl (fun w _ => rq_fine2 w (.slice vp vn vc) e2 a2 false he2)) rfl rfl ?_
     repeat (first | refine yK ?_ | (refine gO ?_; refine yP ?_) | refine yT ?_)
     refine sy_typN 0 0 0 0 0 zw ?_
     refine sy_drawE _ 4 [(0, false), (1, false), (2, false), (3, true)] (by kernel_rfl) rfl ((sd (sk (List.nil_sublist _)))) ?_
     repeat (first | refine dre_rd (fun _ _ => ov_ld 0 rfl rfl rfl) rfl ?_ | refine dre_rd (fun _ _ => ov_fieldAddr rfl rfl rfl) rfl ?_ | refine dre_rd (fun _ _ => ov_build rfl rfl rfl) rfl ?_ | (refine dre_ef rfl ?_; refine yS 5 ?_; refine dre_ek (by repeat first | exact sr | apply sk | apply sd) ?_) | refine dre_end ?_)
     repeat (first | refine yK ?_ | (refine gO ?_; (refine gS ?_; refine yS 4 ?_)) | refine sy_rt ?_)
     exact ret_ccw 5 4 rfl rfl rfl rfl rfl rfl rfl rfl rfl fun w' hw' => ⟨_, _, hP, rfl, hw'.weaken (sk (List.nil_sublist _))⟩
 · have hR : typR s = (ztP, e, a) := by unfold typR; rw [hL, if_pos he]
   refine sy_enter rfl rfl ?_
   simp only [initFr]
   repeat (first | refine yK ?_ | (refine gO ?_; first | refine yP ?_ | (refine yA ?_; intro _)))
   refine sy_calln rfl rfl (fun w _ => rscan_c s (by omega) w) ?_
   rintro _ _ ⟨p, q, rfl, rfl⟩
   rw [hL]
   dsimp only
   repeat (first | refine yK ?_ | (refine gO ?_; first | refine yP ?_ | (refine gL ?_; refine yL 0 ?_) | (refine gS ?_; refine yS 0 ?_) | refine yF ?_ | (refine yA ?_; intro _)) | refine yT ?_)
   refine sy_typN 0 0 0 0 0 zw ?_
   refine sy_drawE _ 3 [(0, false), (1, false), (2, true)] (by kernel_rfl) rfl ((sd (sk (List.nil_sublist _)))) ?_
   repeat (first | refine dre_rd (fun _ _ => ov_ld 0 rfl rfl rfl) rfl ?_ | refine dre_rd (fun _ _ => ov_build rfl rfl rfl) rfl ?_ | (refine dre_ef rfl ?_; refine yS 4 ?_; refine dre_ek (by repeat first | exact sr | apply sk | apply sd) ?_) | refine dre_end ?_)
   repeat (first | refine yK ?_ | (refine gO ?_; (refine gS ?_; refine yS 3 ?_)) | refine sy_rt ?_)
   exact ret_ccw 4 3 rfl rfl rfl rfl rfl rfl rfl rfl rfl fun w' hw' => ⟨_, _, ⟨.mk 0 0 0 0 0 ws0 none 0 [] zw, by rw [hR]; rfl, by rw [hR]; simp only [plT, plPs]; rfl, rfl⟩, rfl, hw'.weaken (sk (List.nil_sublist _))⟩
end Go.Proofs.YtldjakeigjngoaaGreat
/- The walk of blindfoldlaw16.SyntaxTypes. -/
namespace Go.Proofs.YtldjakeigjngoaaGreat
open Go.RowKit Bf
def live16 : List UInt8 := [105, 110, 116, 40, 48, 46, 46, 57, 41]
theorem scan16 : scanR live16 = ([(1, 0, 3, [105, 110, 116], 0), (4, 3, 4, [40], 0), (2, 4, 5, [], 0), (4, 5, 7, [46, 46], 0), (2, 7, 8, [], 9), (4, 8, 9, [41], 0), (0, 9, 9, [], 0)], 0, 0) :=
 scanR_of (by decide) 40 (by kernel_rfl)
theorem typ16 : typR live16 = (.mk 2 0 0 9 0 [] [] zw, 0, 0) := by
 unfold typR; rw [scan16]; rfl
theorem eqL_self2 (e a : Int) : eqL [.int .i64 e, .int .i64 a] [.int .i64 e, .int .i64 a] = true := by simp [eqL, eqC]
theorem typ_at {D : Nat → Prop} {w0 w : World} {hp : List En} (hw : HpOk D w0 hp w) {i : Nat} {z : TypA} (hi : hp[i]? = some (typE z)) : TypJ w z := (hw.get hi).1
set_option maxRecDepth 20000 in
set_option maxHeartbeats 4000000 in
theorem lives16_c (w : World) : Calls Tryz.prog 10 #[] w fun e w' => e = .returned (.bool true) ∧ Below w.heap.size w w' := by
 refine sy_enter (args := []) rfl rfl ?_
 simp only [initFr]
 repeat (first | refine yK ?_ | (refine gO ?_; refine yP ?_))
 refine sy_callE [] rfl rfl rfl (sx_type live16 (by decide)) ?_
 rintro _ _ ⟨z, rfl, hz, rfl⟩
 rw [typ16] at hz ⊢
 obtain ⟨k, a, lo, hi, most, ns, pp, cp, parts, nm⟩ := z
 simp only [plT, TypP.mk.injEq] at hz
 obtain ⟨rfl, rfl, rfl, rfl, rfl, _, _, _⟩ := hz
 simp only [List.cons_append, List.nil_append]
 repeat (first | refine yK ?_ | (refine gO ?_; first | refine yP ?_ | (refine gL ?_; refine yL 0 ?_) | (refine gS ?_; first | refine yS 0 ?_ | refine yS 1 ?_) | refine yB ?_ | (refine yA ?_; intro _)))
 refine sy_ov (ov_eqst (xs := [.int .i64 0, .int .i64 0]) (ys := [.int .i64 0, .int .i64 0]) rfl rfl rfl rfl) rfl rfl ?_
 rw [eqL_self2]
 repeat (first | refine yK ?_ | (refine gO ?_; first | refine yP ?_ | (refine gG ?_; refine yG ?_) | (refine gL ?_; refine yL 1 ?_) | refine yM ?_ | refine yF ?_) | refine sy_rt ?_)
 exact ret1 rfl rfl rfl
set_option maxRecDepth 20000 in
set_option maxHeartbeats 4000000 in
theorem synTypes_walk (s : ByteArray) (hs0 : s.size ≤ 140737488351232) (w : World) : Calls Tryz.prog 4 #[.string s] w fun e w' => e = .returned (.bool true) ∧ Below w.heap.size w w' := by
 obtain ⟨⟨q⟩⟩ := s
 have hq : q.length ≤ 140737488351232 := hs0
 by_cases h1 : 4000 < q.length
 · refine sy_enter rfl rfl ?_
   simp only [initFr]
   repeat (first | refine yK ?_ | (refine gO ?_; first | refine yP ?_ | (refine gK ?_; refine sy_ov (ov_len rfl) rfl rfl ?_)) | refine yT ?_)
   refine sy_ov (ov_call rfl (fun w _ => lives16_c w)) rfl rfl ?_
   repeat (first | refine yK ?_ | (refine gO ?_; refine yP ?_) | refine sy_rt ?_)
   exact ret1 rfl rfl rfl
 · refine sy_enter rfl rfl ?_
   simp only [initFr]
   repeat (first | refine yK ?_ | (refine gO ?_; first | refine yP ?_ | (refine gK ?_; refine sy_ov (ov_len rfl) rfl rfl ?_)) | refine yN ?_)
   refine sy_callE [] rfl rfl rfl (sx_type q (by omega)) ?_
   rintro _ _ ⟨z, rfl, hz, rfl⟩
   obtain ⟨k, a, lo, hi, most, ns, pp, cp, parts, nm⟩ := z
   simp only [List.cons_append, List.nil_append]
   repeat (first | refine yK ?_ | (refine gO ?_; first | refine yP ?_ | (refine gS ?_; first | refine yS 0 ?_ | refine yS 1 ?_) | (refine yA ?_; intro _)))
   refine sy_callN rfl rfl (fun w _ => rq_type q (by omega) w) ?_
   rintro _ _ ⟨z2, rfl, hz2, rfl⟩
   obtain ⟨k', a', lo', hi', most', ns', pp', cp', parts', nm'⟩ := z2
   simp only [List.cons_append, List.nil_append]
   repeat (first | refine yK ?_ | (refine gO ?_; first | refine yP ?_ | (refine gL ?_; first | refine yL 1 ?_ | refine yL 4 ?_) | (refine gS ?_; first | refine yS 0 ?_ | refine yS 1 ?_) | (refine yA ?_; intro _)))
   refine sy_ov (ov_call rfl (fun w hw => rq_same _ (.mk k a lo hi most ns pp cp parts nm) (Nat.le_refl _) (.mk k' a' lo' hi' most' ns' pp' cp' parts' nm') w (typ_at (i := 5) hw rfl) (typ_at (i := 2) hw rfl) (by rw [hz, hz2]))) rfl rfl ?_
   repeat ((refine gO ?_; first | refine yP ?_ | (refine gG ?_; refine yG ?_) | (refine gL ?_; first | refine yL 0 ?_ | refine yL 3 ?_)))
   refine sy_ov (ov_eqst (xs := [.int .i64 (typR q).2.1, .int .i64 (typR q).2.2]) (ys := [.int .i64 (typR q).2.1, .int .i64 (typR q).2.2]) rfl rfl rfl rfl) rfl rfl ?_
   rw [eqL_self2]
   repeat ((refine gO ?_; first | refine yP ?_ | (refine gG ?_; refine yG ?_) | refine yM ?_))
   refine sy_ov (ov_call rfl (fun w _ => lives16_c w)) rfl rfl ?_
   repeat (first | refine yK ?_ | (refine gO ?_; first | refine yP ?_ | refine yM ?_) | refine sy_rt ?_)
   exact ret1 rfl rfl rfl
end Go.Proofs.YtldjakeigjngoaaGreat
namespace Go.Proofs.YtldjakeigjngoaaGreat.syntaxTypes
open Go.ChangeShapes Go.WideShapes Go.ChangeAt Go.RowKit
open Go.ChangeMaps (open_string shut_string)
theorem own : ownKnob Tryz.prog.godebug = none := own_t
theorem laidOut : laidOutB Tryz.prog = true := laidOut_t
set_option maxRecDepth 100000 in
theorem lifted (os : Os) (started : os.Started) (H : Type) (enc : TypeId × Value → H) :
 ReturnsInHanded {} Tryz.checked os 4 .any (Rows.syntaxTypesSpec.pre6 enc Tryz.prog Tryz.f4 Rows.syntaxTypesRow.domain false) (Rows.syntaxTypesSpec.post enc Tryz.prog Tryz.f4 false true false false) := by
 refine returnsInHanded_of_change_sized (C := Tryz.checked) own started (by kernel_rfl) Tryz.func4
  (ChangeSpec.witness6 (enc := enc) (C := Tryz.checked) false ⟨#[], #[.string ByteArray.empty], []⟩ 8 (by kernel_rfl) (by kernel_rfl) (by kernel_rfl) (by kernel_rfl)) ?_
 intro W base args ds gs before hval0 hW hcnd hsz0 _
 have hval : ∀ (j : Nat) t v, Tryz.f4.params[j]? = some t → args[j]? = some v → Value.okWide Tryz.prog W .any base t v := hval0
 have hW' := hW
 obtain ⟨p, q, hA0, hV, rfl, hfz, hnd⟩ := hW
 have hA : DataW.TrodAll enc Tryz.prog W 0 (fun _ => true) true Tryz.f4.params.toList args.toList ds p := hA0
 have hsz : (DataW.weightsEach Tryz.prog (Tryz.f4.params.toList ++ Rows.syntaxTypesSpec.plain.varTypes Tryz.prog) (ds ++ gs)).all (· ≤ reachBytes) = true := hsz0
 rw [Tryz.params4] at hA hval hsz
 obtain ⟨v0, vs0, d0, ds0, p0, q0, hargs, rfl, rfl, h0, r0⟩ := trodAll_cons hA
 obtain ⟨rfl, rfl, rfl⟩ := trodAll_nil r0
 obtain rfl : args = #[v0] := by cases args; simp_all
 obtain ⟨rfl, rfl⟩ := trodVars_none hV
 obtain ⟨a0, rfl, rfl, rfl, w0⟩ := open_string Tryz.underlying9 (hval 0 9 v0 rfl rfl) h0
 have sz0 : a0.size ≤ 140737488351232 := by have := sized_string hsz (j := 0) (t := 9) rfl rfl; simpa [reachBytes] using this
 clear hA0 hval0
 refine (synTypes_walk a0 sz0 W).mono fun e W' ⟨he, bel⟩ => ?_
 subst he
 exact ⟨_, rfl, _, _, _, [], _, [], hW', trodAll_mk1 (shut_bool Tryz.underlying4 _), (trodAll_cons_mk (shut_string Tryz.underlying9 w0) trodAll_mk0), rfl, bel.frame _, fun h => by cases h⟩
theorem inPlace_t : (Rows.syntaxTypesRow.inPlace == Tryz.prog.inPlace 4) = true := by kernel_rfl
theorem unfollowed_t : (Rows.syntaxTypesRow.unfollowed == Tryz.prog.unfollowed 4) = true := by kernel_rfl
theorem recurses_t : (Rows.syntaxTypesRow.recurses == Tryz.prog.recurses 4) = true := by kernel_rfl
theorem named_t : (Rows.syntaxTypesRow.named == Tryz.prog.varsNamed 4) = true := by kernel_rfl
theorem closed : joinedFacts Tryz.pinned.checked.prog 4 Tryz.f4 Rows.syntaxTypesSpec Rows.syntaxTypesRow = true :=
 and_t (and_t (and_t (and_t (and_t (and_t (and_t (and_t (and_t (and_t (and_t (and_t (and_t (and_t (and_t (and_t (and_t (and_t (and_t (and_t (and_t (and_t (and_t (and_t (and_t (and_t (and_t (and_t (and_t (and_t (and_t (by kernel_rfl) laidOut_t) mapsRowed_t) (by kernel_rfl)) (by kernel_rfl)) (by kernel_rfl)) stops_t) (by kernel_rfl)) stopKnobs_t) inPlace_t) unfollowed_t) recurses_t) named_t) (by kernel_rfl)) (by kernel_rfl)) (by kernel_rfl)) (by kernel_rfl)) (by kernel_rfl)) (by kernel_rfl)) (by kernel_rfl)) (by kernel_rfl)) (by kernel_rfl)) plainKeys_t) (by kernel_rfl)) stopsHeard_t) mayEnter_t) lifts_t) make_t) (by kernel_rfl)) (by kernel_rfl)) (by kernel_rfl)) (by kernel_rfl)
theorem over : Rows.syntaxTypesRow.holds Tryz.pinned (OpenSpec.ofChange Rows.syntaxTypesSpec) :=
 OpenClaim.holds_of_wide 4 Tryz.f4 rfl rfl rfl rfl rfl rfl rfl ⟨rfl, rfl, rfl, rfl, rfl⟩ rfl rfl rfl rfl rfl (by kernel_rfl) Tryz.func4 closed
  (of_decide_eq_true (by kernel_rfl)) (by unfold Func.isWrapper; first | (rw [if_pos (by decide +kernel)]; kernel_rfl) | (rw [if_neg (by decide +kernel)]; exact ⟨rfl, rfl⟩))
  (fun os started H enc _ => lifted os started H enc)
theorem proved : Rows.SyntaxTypesSaid := over
#print axioms proved
end Go.Proofs.YtldjakeigjngoaaGreat.syntaxTypes