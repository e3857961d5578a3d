/- blindfoldlaw16.SyntaxBlanks answers true for every input and leaves what it is given as it was: a remark ahead of a type shifts positions alone. No condition. -/
/- LawSyntaxBlanksQ: texts of this proof, joined by program: Same15, WalkSynBlanks, LawSyntaxBlanks. -/
import Derived.Test.YtldjakeigjngoaaBSB
import Derived.Test.YtldjakeigjngoaaBSU
import Derived.Test.YtldjakeigjngoaaBST
import Derived.Test.YtldjakeigjngoaaFactsQ
import Derived.ProofKit
import Derived.OpenShut
import Derived.ShutString
import Derived.ChangeOld
import Derived.Below
import Derived.SizedLaws
/- Contract: types that are the same but for places are held to be, by the document (15.2). -/
set_option linter.unusedVariables false
set_option linter.unusedSimpArgs false
namespace Go.Proofs.Ytldjakeigjngoaa
open Go.RowKit Bf
theorem St.le2 {C C' : Cx} {R : World → Prop} (h : St C.D C.w0 R) (hC : CxLe C C') : St C'.D C'.w0 R := fun w hk => h w (hC.keep w hk)
theorem upd0 (vs ph : List Value) (h : ph.length = vs.length) : upd ph 0 vs = vs := by simpa using upd_all vs ph [] h
theorem sy_frame {P : Program} {C : Cx} {k : List It} {fr : Fr} {hp : List En} (F : Fr) (hf : Sub F fr) (h : Sy P C k F hp) : Sy P C k fr hp := .mk fun a w ha hw => h.go a w (hf.frOk ha) hw
theorem eqPs_len : ∀ {l m : List PrtP}, eqPs l m → l.length = m.length
 | [], [], _ => rfl
 | _ :: l, _ :: m, h => by simp only [eqPs] at h; simp only [List.length_cons, eqPs_len h.2]
 | _ :: _, [], h => by simp only [eqPs] at h
 | [], _ :: _, h => by simp only [eqPs] at h
theorem eqPs_get : ∀ {l m : List PrtP} (_ : eqPs l m) (i : Nat) {x y : PrtP}, l[i]? = some x → m[i]? = some y → eqP x y
 | [], _, _, i, x, y, hx, _ => by simp at hx
 | _ :: _, [], h, _, _, _, _, _ => by simp only [eqPs] at h
 | a :: l, b :: m, h, 0, x, y, hx, hy => by
  simp only [eqPs] at h
  simp only [List.getElem?_cons_zero, Option.some.injEq] at hx hy
  subst hx hy; exact h.1
 | a :: l, b :: m, h, i + 1, x, y, hx, hy => by
  simp only [eqPs] at h
  simp only [List.getElem?_cons_succ] at hx hy
  exact eqPs_get h.2 i hx hy
theorem wd_st {w : World} {a : WsA} (h : WsJ w a) : St (fun _ => False) w (fun w => WsJ w a) := St.start (fun _ _ hb h => WsJ.bl hb h) h
set_option maxRecDepth 20000 in
theorem wd_words (a b : WsA) (w : World) (ha : WsJ w a) (hb : WsJ w b) (he : a.l.map stW = b.l.map stW) : Calls Try.prog 69 #[wsV a, wsV b] w fun u w' => u = .returned (.bool true) ∧ Below w.heap.size w w' := by
 obtain ⟨pa, ca, l⟩ := a
 obtain ⟨pb, cb, l2⟩ := b
 simp only at he
 have hlen : l.length = l2.length := by have := congrArg List.length he; simpa using this
 have hm : l.length ≤ 9223372036854775807 := ha.1
 have hsw : St (fun _ => False) w (fun w => IsSl w 2 pa l.length (l.flatMap wordV)) := St.start (IsSl.bl _ _ _ _) ha.2
 have hsw' : St (fun _ => False) w (fun w => IsSl w 2 pb l2.length (l2.flatMap wordV)) := St.start (IsSl.bl _ _ _ _) hb.2
 simp only [wsV]
 rw [← hlen] at hsw' ⊢
 refine sy_enter rfl rfl ?_
 simp only [initFr]
 repeat (first | refine yK ?_ | (refine gO ?_; first | refine yP ?_ | (refine gK ?_; refine sy_ov (ov_lens rfl) rfl rfl ?_)) | refine yN ?_)
 refine sy_loop (α := Int) (fun i => [(0, .slice pa l.length ca), (1, .slice pb l.length cb), (5, .int .i64 i)]) (fun _ => []) (fun i => 0 ≤ i ∧ i ≤ l.length) (fun i => (l.length - i).toNat) 0 ⟨by omega, by omega⟩ ⟨⟨_, rfl, rfl⟩, ⟨_, rfl, rfl⟩, ⟨_, rfl, rfl⟩, trivial⟩ sr ?_
 rintro i ⟨i0, i1⟩
 by_cases hlt : i < l.length
 · obtain ⟨x, hx⟩ : ∃ x, l[i.toNat]? = some x := ⟨_, List.getElem?_eq_getElem (by omega)⟩
   obtain ⟨y, hy⟩ : ∃ y, l2[i.toNat]? = some y := ⟨_, List.getElem?_eq_getElem (by omega)⟩
   have hxy : x.1 = y.1 := by
    have e1 := congrArg (fun q => q[i.toNat]?) he
    simp only [List.getElem?_map, hx, hy, Option.map_some, Option.some.injEq] at e1
    exact e1
   obtain ⟨xn, xa⟩ := x
   obtain ⟨yn, ya⟩ := y
   simp only at hxy
   subst hxy
   obtain ⟨b, off, hp, hat⟩ := hsw.addr (by omega)
   obtain ⟨b', off', hp', hat'⟩ := hsw'.addr (by omega)
   subst hp
   subst hp'
   repeat (first | refine yK ?_ | (refine gO ?_; first | refine yP ?_ | (refine gK ?_; refine sy_ov (ov_lens rfl) rfl rfl ?_)) | refine yT ?_)
   refine sy_draw 10 (by kernel_rfl) ?_
   repeat (first | refine dr_op (ov_p rfl) rfl rfl ?_ | refine dr_op (ov_fieldAddr rfl rfl rfl) rfl rfl ?_ | (refine dr_op (ov_indexAddr rfl rfl ?_ ?_) rfl rfl ?_; omega; omega))
   refine dr_op (ov_cell (f := wordV) (j := 0) hat hx rfl rfl rfl (fun _ => rfl)) rfl rfl ?_
   repeat (first | refine dr_op (ov_p rfl) rfl rfl ?_ | refine dr_op (ov_fieldAddr rfl rfl rfl) rfl rfl ?_ | (refine dr_op (ov_indexAddr rfl rfl ?_ ?_) rfl rfl ?_; omega; omega))
   refine dr_op (ov_cell (f := wordV) (j := 0) hat' hy rfl rfl rfl (fun _ => rfl)) rfl rfl ?_
   repeat (refine dr_end ?_)
   repeat (first | refine yK ?_ | (refine gO ?_; first | refine yP ?_ | (refine gB ?_; (refine sy_ov (ov_ar rfl rfl rfl ?_ ?_) rfl rfl ?_; omega; omega))) | refine yN ?_)
   refine sy_back (i + 1) ⟨by omega, by omega⟩ (by omega) ⟨⟨_, rfl, rfl⟩, ⟨_, rfl, rfl⟩, ⟨_, rfl, rfl⟩, trivial⟩ sr
 · repeat (first | refine yK ?_ | (refine gO ?_; first | refine yP ?_ | (refine gK ?_; refine sy_ov (ov_lens rfl) rfl rfl ?_)) | refine yN ?_ | refine sy_rt ?_)
   exact ret1 rfl rfl rfl
set_option maxRecDepth 20000 in
theorem wd_plain (xn yn : WordT) (bare : Bool) (lx ly : WsA) (wd ck cn cx cy : Int) (qx qy : WsA) (tx ty : TypA) (w : World) (hlx : WsJ w lx) (hly : WsJ w ly) (hqx : WsJ w qx) (hqy : WsJ w qy) (hl : lx.l.map stW = ly.l.map stW) (hq : qx.l.map stW = qy.l.map stW) :
 Calls Try.prog 70 #[.agg ⟨prtV (.mk xn bare lx wd ck cn cx qx tx)⟩, .agg ⟨prtV (.mk yn bare ly wd ck cn cy qy ty)⟩] w fun u w' => u = .returned (.bool true) ∧ Below w.heap.size w w' := by
 have s1 := wd_st hlx
 have s2 := wd_st hly
 have s3 := wd_st hqx
 have s4 := wd_st hqy
 obtain ⟨tk, ta, tlo, thi, tmo, tns, tpp, tcp, tparts, tn⟩ := tx
 obtain ⟨uk, ua, ulo, uhi, umo, uns, upp, ucp, uparts, un⟩ := ty
 simp only [prtV, typV, List.cons_append, List.nil_append]
 refine sy_enter rfl rfl ?_
 simp only [initFr]
 repeat (first | refine yK ?_ | (refine gO ?_; first | refine yP ?_ | (refine gG ?_; refine yG ?_) | (refine gB ?_; refine sy_ov (ov_eqb rfl rfl) rfl rfl ?_) | (refine gL ?_; first | refine yL 0 ?_ | refine yL 1 ?_) | refine yM ?_ | refine yF ?_ | (refine sy_box rfl rfl rfl ?_; intro _)))
 refine sy_ov (ov_call rfl (fun w hw => wd_words lx ly w (s1.at hw) (s2.at hw) hl)) rfl rfl ?_
 repeat ((refine gO ?_; first | refine yP ?_ | (refine gG ?_; refine yG ?_) | (refine gL ?_; first | refine yL 0 ?_ | refine yL 1 ?_) | refine yM ?_ | refine yF ?_))
 refine sy_ov (ov_call rfl (fun w hw => wd_words qx qy w (s3.at hw) (s4.at hw) hq)) rfl rfl ?_
 repeat (first | refine yK ?_ | (refine gO ?_; first | refine yP ?_ | refine yM ?_) | refine sy_rt ?_)
 exact ret1 rfl rfl rfl
theorem sizeS_part {k a lo hi most : Int} {ns : WsA} {pp : Option Addr} {cp : Nat} {parts : List PrtA} {nm : WordT} {nm' : WordT} {bare : Bool} {lab : WsA} {wide ck cn ca : Int} {cl : WsA} {ty : TypA} (h : PrtA.mk nm' bare lab wide ck cn ca cl ty ∈ parts) : SizeOf.sizeOf ty < SizeOf.sizeOf (TypA.mk k a lo hi most ns pp cp parts nm) := by
 have := List.sizeOf_lt_of_mem h
 simp at this ⊢; omega
set_option maxRecDepth 20000 in
set_option maxHeartbeats 8000000 in
theorem wd_same : ∀ (m : Nat) (z : TypA), SizeOf.sizeOf z ≤ m → ∀ (z2 : TypA) (w : World), TypJ w z → TypJ w z2 → eqT (plT z) (plT z2) → Calls Try.prog 41 #[.agg ⟨typV z⟩, .agg ⟨typV z2⟩] w fun e w' => e = .returned (.bool true) ∧ Below w.heap.size w w' := by
 intro m
 induction m with
 | zero => intro z hz; cases z; simp at hz
 | succ m ih =>
  intro z hz z2 w hw1 hw2 hpl
  obtain ⟨k, a, lo, hi, most, ns, pp, cp, parts, nm⟩ := z
  obtain ⟨k', a', lo', hi', most', ns', pp', cp', parts', nm'⟩ := z2
  simp only [plT, eqT] at hpl
  obtain ⟨rfl, rfl, rfl, rfl, hns, hnm, hps⟩ := hpl
  obtain ⟨nn, na⟩ := nm
  obtain ⟨nn', na'⟩ := nm'
  have hnn : nn = nn' := hnm
  subst hnn
  simp only [TypJ] at hw1 hw2
  obtain ⟨w1, hm, hs, hj⟩ := hw1
  obtain ⟨w2, hm', hs', hj'⟩ := hw2
  have hlen : parts.length = parts'.length := by have := eqPs_len hps; rwa [plPs_len, plPs_len] at this
  have hmm : parts.length ≤ 9223372036854775807 := hm
  have sw1 := wd_st w1
  have sw2 := wd_st w2
  have hst : St (fun _ => False) w (fun w => IsSl w 18 pp parts.length (parts.flatMap prtV)) := St.start (IsSl.bl _ _ _ _) hs
  have hst' : St (fun _ => False) w (fun w => IsSl w 18 pp' parts'.length (parts'.flatMap prtV)) := St.start (IsSl.bl _ _ _ _) hs'
  have hsj : St (fun _ => False) w (fun w => PrtsJ w parts) := St.start (fun _ _ hb h => PrtsJ.bl' hb _ h) hj
  have hsj' : St (fun _ => False) w (fun w => PrtsJ w parts') := St.start (fun _ _ hb h => PrtsJ.bl' hb _ h) hj'
  rw [← hlen] at hst'
  simp only [typV]
  rw [← hlen]
  refine sy_enter rfl rfl ?_
  simp only [initFr]
  repeat (first | refine yK ?_ | (refine gO ?_; first | refine yP ?_ | (refine gG ?_; refine yG ?_) | (refine gL ?_; first | refine yL 0 ?_ | refine yL 1 ?_) | refine yE ?_ | refine yF ?_ | (refine sy_box rfl rfl rfl ?_; intro _)))
  refine sy_ov (ov_call rfl (fun w hw => wd_words ns ns' w (sw1.at hw) (sw2.at hw) hns)) rfl rfl ?_
  repeat (first | refine yK ?_ | (refine gO ?_; first | refine yP ?_ | (refine gG ?_; refine yG ?_) | (refine gK ?_; refine sy_ov (ov_lens rfl) rfl rfl ?_) | (refine gL ?_; first | refine yL 0 ?_ | refine yL 1 ?_) | refine yE ?_ | refine yF ?_) | refine yN ?_)
  rename_i b2 b3
  refine sy_loop (α := Int) (fun i => [(2, .pointer (some ⟨b2, 0, none⟩)), (3, .pointer (some ⟨b3, 0, none⟩)), (5, .int .i64 i)]) (fun _ => [blk b3 71 [.int .i64 k, .int .i64 a', .int .i64 lo, .int .i64 hi, .int .i64 most, wsV ns', .slice pp' parts.length cp', S nn, .int .i64 na'], blk b2 71 [.int .i64 k, .int .i64 a, .int .i64 lo, .int .i64 hi, .int .i64 most, wsV ns, .slice pp parts.length cp, S nn, .int .i64 na]]) (fun i => 0 ≤ i ∧ i ≤ parts.length) (fun i => (parts.length - i).toNat) 0 ⟨by omega, by omega⟩ ⟨⟨_, rfl, rfl⟩, ⟨_, rfl, rfl⟩, ⟨_, rfl, rfl⟩, trivial⟩ sr ?_
  rintro i ⟨i0, i1⟩
  by_cases hlt : i < parts.length
  · obtain ⟨x, hx⟩ : ∃ x, parts[i.toNat]? = some x := ⟨_, List.getElem?_eq_getElem (by omega)⟩
    obtain ⟨y, hy⟩ : ∃ y, parts'[i.toNat]? = some y := ⟨_, List.getElem?_eq_getElem (by omega)⟩
    have hxy : eqP (plP x) (plP y) := eqPs_get hps i.toNat (by rw [plPs_get, hx]; rfl) (by rw [plPs_get, hy]; rfl)
    have hxm := List.mem_of_getElem? hx
    obtain ⟨b, off, hp, hat⟩ := hst.addr (by omega)
    obtain ⟨b', off', hp', hat'⟩ := hst'.addr (by omega)
    subst hp
    subst hp'
    have jx : St (fun _ => False) w (fun w => PrtJ w x) := fun w' hk => (hsj w' hk).get hx
    have jy : St (fun _ => False) w (fun w => PrtJ w y) := fun w' hk => (hsj' w' hk).get hy
    obtain ⟨⟨xn, xat⟩, xb, xlab, xw, xk, xq, xa, xcl, ty⟩ := x
    obtain ⟨⟨yn, yat⟩, yb, ylab, yw, yk, yq, ya, ycl, uy⟩ := y
    simp only [plP, eqP, stC, stW, Prod.mk.injEq] at hxy
    obtain ⟨rfl, rfl, hlab, rfl, ⟨rfl, rfl, hcl⟩, hty⟩ := hxy
    simp only [PrtJ] at jx jy
    have hsz := sizeS_part (k := k) (a := a) (lo := lo) (hi := hi) (most := most) (ns := ns) (pp := some ⟨b, off, none⟩) (cp := cp) (nm := (nn, na)) hxm
    have hrec := fun w => ih ty (by omega) uy w
    obtain ⟨tk, ta, tlo, thi, tmo, tns, tpp, tcp, tparts, tn⟩ := ty
    obtain ⟨uk, ua, ulo, uhi, umo, uns, upp, ucp, uparts, un⟩ := uy
    repeat (first | refine yK ?_ | (refine gO ?_; first | refine yP ?_ | (refine gK ?_; refine sy_ov (ov_lens rfl) rfl rfl ?_) | (refine gL ?_; refine yL 1 ?_) | refine yF ?_) | refine yT ?_)
    refine sy_two 10 11 (by kernel_rfl) ?_ ?_
    · refine any_drawE _ 13 [(0, false), (1, false), (2, false), (3, false), (4, false), (5, false), (6, false), (7, false), (8, false), (9, false), (10, true), (11, true), (12, true)] (by kernel_rfl) rfl sr ?_
      repeat (first | refine dre_rd (fun _ _ => ov_p rfl) rfl ?_ | refine dre_rd (fun _ _ => ov_ld 1 rfl rfl rfl) rfl ?_ | refine dre_rd (fun _ _ => ov_fieldAddr rfl rfl rfl) rfl ?_ | (refine dre_rd (fun _ _ => ov_indexAddr rfl rfl ?_ ?_) rfl ?_; omega; omega))
      refine dre_rd (fun _ hC => ov_elem (f := prtV) (hat.le2 hC) hx rfl rfl prtV_len) rfl ?_
      repeat (first | refine dre_rd (fun _ _ => ov_p rfl) rfl ?_ | refine dre_rd (fun _ _ => ov_ld 0 rfl rfl rfl) rfl ?_ | refine dre_rd (fun _ _ => ov_fieldAddr rfl rfl rfl) rfl ?_ | (refine dre_rd (fun _ _ => ov_indexAddr rfl rfl ?_ ?_) rfl ?_; omega; omega))
      refine dre_rd (fun _ hC => ov_elem (f := prtV) (hat'.le2 hC) hy rfl rfl prtV_len) rfl ?_
      simp only [prtV, typV, List.cons_append, List.nil_append]
      skip
      refine dre_ef rfl ?_
      refine yA ?_
      intro nb1
      refine dre_ek (sd sr) ?_
      skip
      refine dre_ef rfl ?_
      refine yA ?_
      intro nb2
      refine dre_ek (sd (sd sr)) ?_
      repeat (first | (refine dre_ef rfl ?_; refine yS 1 ?_; refine dre_ek (by repeat first | exact sr | apply sk | apply sd) ?_) | refine dre_end ?_)
      refine sy_cells 1 (prtC (xn, xat) xb xlab xw xk xq xa xcl (typV (.mk tk ta tlo thi tmo tns tpp tcp tparts tn))) rfl (upd0 _ _ rfl) ?_
      refine yS 0 ?_
      refine sy_cells 0 (prtC (xn, yat) xb ylab xw xk xq ya ycl (typV (.mk uk ua ulo uhi umo uns upp ucp uparts un))) rfl (upd0 _ _ rfl) ?_
      simp only [prtC, typV, List.set_cons_zero, List.set_cons_succ, List.cons_append, List.nil_append]
      refine sy_frame [(2, .pointer (some ⟨b2, 0, none⟩)), (3, .pointer (some ⟨b3, 0, none⟩)), (5, .int .i64 i), (6, .pointer (some ⟨nb1, 0, none⟩)), (7, .pointer (some ⟨nb2, 0, none⟩))] ⟨⟨_, rfl, rfl⟩, ⟨_, rfl, rfl⟩, ⟨_, rfl, rfl⟩, ⟨_, rfl, rfl⟩, ⟨_, rfl, rfl⟩, trivial⟩ ?_
      repeat (first | refine yK ?_ | (refine gO ?_; first | refine yP ?_ | (refine gG ?_; refine yG ?_) | (refine gL ?_; first | refine yL 0 ?_ | refine yL 1 ?_) | refine yF ?_))
      refine sy_ov (ov_call rfl (fun w hw => wd_plain (xn, xat) (xn, yat) xb xlab ylab xw xk xq xa ya xcl ycl (.mk tk ta tlo thi tmo tns tpp tcp tparts tn) (.mk uk ua ulo uhi umo uns upp ucp uparts un) w (jx.at hw).1 (jy.at hw).1 (jx.at hw).2.1 (jy.at hw).2.1 hlab hcl)) rfl rfl ?_
      repeat ((refine gO ?_; first | refine yP ?_ | (refine gG ?_; refine yG ?_) | (refine gL ?_; first | refine yL 0 ?_ | refine yL 1 ?_) | refine yE ?_ | refine yF ?_))
      refine sy_ov (ov_call rfl (fun w hw => hrec w (jx.at hw).2.2 (jy.at hw).2.2 hty)) rfl rfl ?_
      repeat (first | refine yK ?_ | (refine gO ?_; first | refine yP ?_ | (refine gG ?_; refine yG ?_) | (refine gB ?_; (refine sy_ov (ov_ar rfl rfl rfl ?_ ?_) rfl rfl ?_; omega; omega)) | refine yE ?_) | refine yN ?_)
      refine sy_back (i + 1) ⟨by omega, by omega⟩ (by omega) ⟨⟨_, rfl, rfl⟩, ⟨_, rfl, rfl⟩, ⟨_, rfl, rfl⟩, trivial⟩ (sd (sd sr))
    · refine any_drawE _ 13 [(0, false), (1, false), (2, false), (3, false), (4, false), (5, false), (6, false), (7, false), (8, false), (9, false), (11, true), (10, true), (12, true)] (by kernel_rfl) rfl sr ?_
      repeat (first | refine dre_rd (fun _ _ => ov_p rfl) rfl ?_ | refine dre_rd (fun _ _ => ov_ld 1 rfl rfl rfl) rfl ?_ | refine dre_rd (fun _ _ => ov_fieldAddr rfl rfl rfl) rfl ?_ | (refine dre_rd (fun _ _ => ov_indexAddr rfl rfl ?_ ?_) rfl ?_; omega; omega))
      refine dre_rd (fun _ hC => ov_elem (f := prtV) (hat.le2 hC) hx rfl rfl prtV_len) rfl ?_
      repeat (first | refine dre_rd (fun _ _ => ov_p rfl) rfl ?_ | refine dre_rd (fun _ _ => ov_ld 0 rfl rfl rfl) rfl ?_ | refine dre_rd (fun _ _ => ov_fieldAddr rfl rfl rfl) rfl ?_ | (refine dre_rd (fun _ _ => ov_indexAddr rfl rfl ?_ ?_) rfl ?_; omega; omega))
      refine dre_rd (fun _ hC => ov_elem (f := prtV) (hat'.le2 hC) hy rfl rfl prtV_len) rfl ?_
      simp only [prtV, typV, List.cons_append, List.nil_append]
      skip
      refine dre_ef rfl ?_
      refine yA ?_
      intro nb1
      refine dre_ek (sd sr) ?_
      skip
      refine dre_ef rfl ?_
      refine yA ?_
      intro nb2
      refine dre_ek (sd (sd sr)) ?_
      repeat (first | (refine dre_ef rfl ?_; refine yS 0 ?_; refine dre_ek (by repeat first | exact sr | apply sk | apply sd) ?_) | refine dre_end ?_)
      refine sy_cells 0 (prtC (xn, xat) xb xlab xw xk xq xa xcl (typV (.mk tk ta tlo thi tmo tns tpp tcp tparts tn))) rfl (upd0 _ _ rfl) ?_
      refine yS 1 ?_
      refine sy_cells 1 (prtC (xn, yat) xb ylab xw xk xq ya ycl (typV (.mk uk ua ulo uhi umo uns upp ucp uparts un))) rfl (upd0 _ _ rfl) ?_
      simp only [prtC, typV, List.set_cons_zero, List.set_cons_succ, List.cons_append, List.nil_append]
      refine sy_frame [(2, .pointer (some ⟨b2, 0, none⟩)), (3, .pointer (some ⟨b3, 0, none⟩)), (5, .int .i64 i), (6, .pointer (some ⟨nb2, 0, none⟩)), (7, .pointer (some ⟨nb1, 0, none⟩))] ⟨⟨_, rfl, rfl⟩, ⟨_, rfl, rfl⟩, ⟨_, rfl, rfl⟩, ⟨_, rfl, rfl⟩, ⟨_, rfl, rfl⟩, trivial⟩ ?_
      repeat (first | refine yK ?_ | (refine gO ?_; first | refine yP ?_ | (refine gG ?_; refine yG ?_) | (refine gL ?_; first | refine yL 0 ?_ | refine yL 1 ?_) | refine yF ?_))
      refine sy_ov (ov_call rfl (fun w hw => wd_plain (xn, xat) (xn, yat) xb xlab ylab xw xk xq xa ya xcl ycl (.mk tk ta tlo thi tmo tns tpp tcp tparts tn) (.mk uk ua ulo uhi umo uns upp ucp uparts un) w (jx.at hw).1 (jy.at hw).1 (jx.at hw).2.1 (jy.at hw).2.1 hlab hcl)) rfl rfl ?_
      repeat ((refine gO ?_; first | refine yP ?_ | (refine gG ?_; refine yG ?_) | (refine gL ?_; first | refine yL 0 ?_ | refine yL 1 ?_) | refine yE ?_ | refine yF ?_))
      refine sy_ov (ov_call rfl (fun w hw => hrec w (jx.at hw).2.2 (jy.at hw).2.2 hty)) rfl rfl ?_
      repeat (first | refine yK ?_ | (refine gO ?_; first | refine yP ?_ | (refine gG ?_; refine yG ?_) | (refine gB ?_; (refine sy_ov (ov_ar rfl rfl rfl ?_ ?_) rfl rfl ?_; omega; omega)) | refine yE ?_) | refine yN ?_)
      refine sy_back (i + 1) ⟨by omega, by omega⟩ (by omega) ⟨⟨_, rfl, rfl⟩, ⟨_, rfl, rfl⟩, ⟨_, rfl, rfl⟩, trivial⟩ (sd (sd sr))
  · repeat (first | refine yK ?_ | (refine gO ?_; first | refine yP ?_ | (refine gK ?_; refine sy_ov (ov_lens rfl) rfl rfl ?_) | (refine gL ?_; refine yL 1 ?_) | refine yF ?_) | refine yN ?_ | refine sy_rt ?_)
    exact ret1 rfl rfl rfl
end Go.Proofs.Ytldjakeigjngoaa
/- The walk of blindfoldlaw16.SyntaxBlanks. -/
namespace Go.Proofs.Ytldjakeigjngoaa
open Go.RowKit Bf
def live16 : List UInt8 := [105, 110, 116, 40, 48, 46, 46, 57, 41]
theorem scan16 : scanR live16 = ([(1, 0, 3, [105, 110, 116], 0), (4, 3, 4, [40], 0), (2, 4, 5, [], 0), (4, 5, 7, [46, 46], 0), (2, 7, 8, [], 9), (4, 8, 9, [41], 0), (0, 9, 9, [], 0)], 0, 0) :=
 scanR_of (by decide) 40 (by kernel_rfl)
theorem typ16 : typR live16 = (.mk 2 0 0 9 0 [] [] zw, 0, 0) := by
 unfold typR; rw [scan16]; rfl
theorem eqL_self2 (e a : Int) : eqL [.int .i64 e, .int .i64 a] [.int .i64 e, .int .i64 a] = true := by simp [eqL, eqC]
theorem typ_at {D : Nat → Prop} {w0 w : World} {hp : List En} (hw : HpOk D w0 hp w) {i : Nat} {z : TypA} (hi : hp[i]? = some (typE z)) : TypJ w z := (hw.get hi).1
set_option maxRecDepth 20000 in
set_option maxHeartbeats 4000000 in
theorem lives16_c (w : World) : Calls Try.prog 39 #[] w fun e w' => e = .returned (.bool true) ∧ Below w.heap.size w w' := by
 refine sy_enter (args := []) rfl rfl ?_
 simp only [initFr]
 repeat (first | refine yK ?_ | (refine gO ?_; refine yP ?_))
 refine sy_callE [] rfl rfl rfl (sx_type live16 (by decide)) ?_
 rintro _ _ ⟨z, rfl, hz, rfl⟩
 rw [typ16] at hz ⊢
 obtain ⟨k, a, lo, hi, most, ns, pp, cp, parts, nm⟩ := z
 simp only [plT, TypP.mk.injEq] at hz
 obtain ⟨rfl, rfl, rfl, rfl, rfl, _, _, _⟩ := hz
 simp only [List.cons_append, List.nil_append]
 repeat (first | refine yK ?_ | (refine gO ?_; first | refine yP ?_ | (refine gL ?_; refine yL 0 ?_) | (refine gS ?_; first | refine yS 0 ?_ | refine yS 1 ?_) | refine yB ?_ | (refine yA ?_; intro _)))
 refine sy_ov (ov_eqst (xs := [.int .i64 0, .int .i64 0]) (ys := [.int .i64 0, .int .i64 0]) rfl rfl rfl rfl) rfl rfl ?_
 rw [eqL_self2]
 repeat (first | refine yK ?_ | (refine gO ?_; first | refine yP ?_ | (refine gG ?_; refine yG ?_) | (refine gL ?_; refine yL 1 ?_) | refine yM ?_ | refine yF ?_) | refine sy_rt ?_)
 exact ret1 rfl rfl rfl
mutual
theorem eqT_symm : ∀ (t u : TypP), eqT t u → eqT u t
 | .mk k a lo hi most ns ps nm, .mk k' a' lo' hi' most' ns' ps' nm', h => by
  simp only [eqT] at h ⊢
  obtain ⟨h1, h2, h3, h4, h5, h6, h7⟩ := h
  exact ⟨h1.symm, h2.symm, h3.symm, h4.symm, h5.symm, h6.symm, eqPs_symm ps ps' h7⟩
theorem eqP_symm : ∀ (p q : PrtP), eqP p q → eqP q p
 | .mk nm b lab wd co ty, .mk nm' b' lab' wd' co' ty', h => by
  simp only [eqP] at h ⊢
  obtain ⟨h1, h2, h3, h4, h5, h6⟩ := h
  exact ⟨h1.symm, h2.symm, h3.symm, h4.symm, h5.symm, eqT_symm ty ty' h6⟩
theorem eqPs_symm : ∀ (l m : List PrtP), eqPs l m → eqPs m l
 | [], [], _ => by simp only [eqPs]
 | x :: l, y :: m, h => by
  simp only [eqPs] at h ⊢
  exact ⟨eqP_symm x y h.1, eqPs_symm l m h.2⟩
 | [], _ :: _, h => by simp only [eqPs] at h
 | _ :: _, [], h => by simp only [eqPs] at h
end
theorem typ_eq {k a lo hi most : Int} {ns : WsA} {pp : Option Addr} {cp : Nat} {parts : List PrtA} {nm : WordT} {t : TypP} (h : plT (.mk k a lo hi most ns pp cp parts nm) = t) : a = atOf t := by subst h; rfl
set_option maxRecDepth 20000 in
set_option maxHeartbeats 4000000 in
theorem synBlanks_walk (s : ByteArray) (hs0 : s.size ≤ 140737488351232) (w : World) : Calls Try.prog 8 #[.string s] w fun e w' => e = .returned (.bool true) ∧ Below w.heap.size w w' := by
 obtain ⟨⟨q⟩⟩ := s
 have hq : q.length ≤ 140737488351232 := hs0
 by_cases h1 : 4000 < q.length
 · refine sy_enter rfl rfl ?_
   simp only [initFr]
   repeat (first | refine yK ?_ | (refine gO ?_; first | refine yP ?_ | (refine gK ?_; refine sy_ov (ov_len rfl) rfl rfl ?_)) | refine yT ?_)
   refine sy_ov (ov_call rfl (fun w _ => lives16_c w)) rfl rfl ?_
   repeat (first | refine yK ?_ | (refine gO ?_; refine yP ?_) | refine sy_rt ?_)
   exact ret1 rfl rfl rfl
 · have h5 := typ5 q (by omega)
   have hlen : (line5 ++ q).length ≤ 100000000 := by simp [line5]; omega
   obtain ⟨T, E, A, hT⟩ : ∃ T E A, typR q = (T, E, A) := ⟨_, _, _, rfl⟩
   obtain ⟨T', E', A', hT'⟩ : ∃ T' E' A', typR (line5 ++ q) = (T', E', A') := ⟨_, _, _, rfl⟩
   rw [hT, hT'] at h5
   simp only at h5
   obtain ⟨e1, e2, e3⟩ := h5
   subst e1
   refine sy_enter rfl rfl ?_
   simp only [initFr]
   repeat (first | refine yK ?_ | (refine gO ?_; first | refine yP ?_ | (refine gK ?_; refine sy_ov (ov_len rfl) rfl rfl ?_)) | refine yN ?_)
   refine sy_callE [] rfl rfl rfl (sx_type q (by omega)) ?_
   rintro _ _ ⟨z, rfl, hz, rfl⟩
   rw [hT] at hz ⊢
   simp only at hz
   obtain ⟨k, a, lo, hi, most, ns, pp, cp, parts, nm⟩ := z
   simp only [List.cons_append, List.nil_append]
   repeat (first | refine yK ?_ | (refine gO ?_; first | refine yP ?_ | (refine gB ?_; (refine sy_ov (ov_cat rfl rfl ?_) rfl rfl ?_; focus (first | omega | (simp <;> omega)))) | (refine gS ?_; first | refine yS 0 ?_ | refine yS 1 ?_) | (refine yA ?_; intro _)))
   refine sy_callE [] rfl rfl rfl (sx_type (line5 ++ q) hlen) ?_
   rintro _ _ ⟨z2, rfl, hz2, rfl⟩
   rw [hT'] at hz2 ⊢
   simp only at hz2
   obtain ⟨k', a', lo', hi', most', ns', pp', cp', parts', nm'⟩ := z2
   simp only [List.cons_append, List.nil_append]
   by_cases he : E' = 0
   · subst he
     obtain ⟨f1, f2, f3⟩ := e2 rfl
     have ha : a = atOf T := typ_eq hz
     have ha' : a' = atOf T' := typ_eq hz2
     rw [← ha, ← ha'] at f2
     rw [← ha] at f3
     subst f2
     obtain ⟨a0, a1⟩ := f3
     have hs := eqT_symm _ _ f1
     rw [← hz, ← hz2] at hs
     repeat (first | refine yK ?_ | (refine gO ?_; first | refine yP ?_ | (refine gL ?_; first | refine yL 0 ?_ | refine yL 1 ?_ | refine yL 3 ?_ | refine yL 4 ?_) | (refine gS ?_; first | refine yS 0 ?_ | refine yS 1 ?_) | refine yF ?_ | (refine yA ?_; intro _)) | refine yT ?_ | refine yN ?_)
     refine sy_ov (ov_call rfl (fun w hw => wd_same _ (.mk k a lo hi most ns pp cp parts nm) (Nat.le_refl _) (.mk k' (a + 5) lo' hi' most' ns' pp' cp' parts' nm') w (typ_at (i := 5) hw rfl) (typ_at (i := 2) hw rfl) hs)) rfl rfl ?_
     repeat ((refine gO ?_; first | refine yP ?_ | (refine gG ?_; refine yG ?_) | (refine gB ?_; (refine sy_ov (ov_ar rfl rfl rfl ?_ ?_) rfl rfl ?_; omega; omega)) | (refine gL ?_; first | refine yL 1 ?_ | refine yL 4 ?_) | refine yM ?_ | refine yF ?_))
     refine sy_ov (ov_call rfl (fun w _ => lives16_c w)) rfl rfl ?_
     repeat (first | refine yK ?_ | (refine gO ?_; first | refine yP ?_ | refine yM ?_) | refine sy_rt ?_)
     exact ret1 rfl rfl rfl
   · obtain ⟨f2, a0, a1⟩ := e3 he
     subst f2
     repeat (first | refine yK ?_ | (refine gO ?_; first | refine yP ?_ | (refine gG ?_; refine yG ?_) | (refine gB ?_; (refine sy_ov (ov_ar rfl rfl rfl ?_ ?_) rfl rfl ?_; omega; omega)) | (refine gL ?_; first | refine yL 0 ?_ | refine yL 3 ?_) | (refine gS ?_; first | refine yS 0 ?_ | refine yS 1 ?_) | refine yM ?_ | refine yF ?_ | (refine yA ?_; intro _)) | refine yN ?_)
     refine sy_ov (ov_call rfl (fun w _ => lives16_c w)) rfl rfl ?_
     repeat (first | refine yK ?_ | (refine gO ?_; first | refine yP ?_ | refine yM ?_) | refine sy_rt ?_)
     exact ret1 rfl rfl rfl
end Go.Proofs.Ytldjakeigjngoaa
namespace Go.Proofs.Ytldjakeigjngoaa.syntaxBlanks
open Go.ChangeShapes Go.WideShapes Go.ChangeAt Go.RowKit
open Go.ChangeMaps (open_string shut_string)
theorem own : ownKnob Try.prog.godebug = none := own_t
theorem laidOut : laidOutB Try.prog = true := laidOut_t
set_option maxRecDepth 100000 in
theorem lifted (os : Os) (started : os.Started) (H : Type) (enc : TypeId × Value → H) :
 ReturnsInHanded {} Try.checked os 8 .any (Rows.syntaxBlanksSpec.pre6 enc Try.prog Try.f8 Rows.syntaxBlanksRow.domain false) (Rows.syntaxBlanksSpec.post enc Try.prog Try.f8 false true false false) := by
 refine returnsInHanded_of_change_sized (C := Try.checked) own started (by kernel_rfl) Try.func8
  (ChangeSpec.witness6 (enc := enc) (C := Try.checked) false ⟨#[], #[.string ByteArray.empty], []⟩ 8 (by kernel_rfl) (by kernel_rfl) (by kernel_rfl) (by kernel_rfl)) ?_
 intro W base args ds gs before hval0 hW hcnd hsz0 _
 have hval : ∀ (j : Nat) t v, Try.f8.params[j]? = some t → args[j]? = some v → Value.okWide Try.prog W .any base t v := hval0
 have hW' := hW
 obtain ⟨p, q, hA0, hV, rfl, hfz, hnd⟩ := hW
 have hA : DataW.TrodAll enc Try.prog W 0 (fun _ => true) true Try.f8.params.toList args.toList ds p := hA0
 have hsz : (DataW.weightsEach Try.prog (Try.f8.params.toList ++ Rows.syntaxBlanksSpec.plain.varTypes Try.prog) (ds ++ gs)).all (· ≤ reachBytes) = true := hsz0
 rw [Try.params8] at hA hval hsz
 obtain ⟨v0, vs0, d0, ds0, p0, q0, hargs, rfl, rfl, h0, r0⟩ := trodAll_cons hA
 obtain ⟨rfl, rfl, rfl⟩ := trodAll_nil r0
 obtain rfl : args = #[v0] := by cases args; simp_all
 obtain ⟨rfl, rfl⟩ := trodVars_none hV
 obtain ⟨a0, rfl, rfl, rfl, w0⟩ := open_string Try.underlying9 (hval 0 9 v0 rfl rfl) h0
 have sz0 : a0.size ≤ 140737488351232 := by have := sized_string hsz (j := 0) (t := 9) rfl rfl; simpa [reachBytes] using this
 clear hA0 hval0
 refine (synBlanks_walk a0 sz0 W).mono fun e W' ⟨he, bel⟩ => ?_
 subst he
 exact ⟨_, rfl, _, _, _, [], _, [], hW', trodAll_mk1 (shut_bool Try.underlying4 _), (trodAll_cons_mk (shut_string Try.underlying9 w0) trodAll_mk0), rfl, bel.frame _, fun h => by cases h⟩
theorem inPlace_t : (Rows.syntaxBlanksRow.inPlace == Try.prog.inPlace 8) = true := by kernel_rfl
theorem unfollowed_t : (Rows.syntaxBlanksRow.unfollowed == Try.prog.unfollowed 8) = true := by kernel_rfl
theorem recurses_t : (Rows.syntaxBlanksRow.recurses == Try.prog.recurses 8) = true := by kernel_rfl
theorem named_t : (Rows.syntaxBlanksRow.named == Try.prog.varsNamed 8) = true := by kernel_rfl
theorem closed : joinedFacts Try.pinned.checked.prog 8 Try.f8 Rows.syntaxBlanksSpec Rows.syntaxBlanksRow = true :=
 and_t (and_t (and_t (and_t (and_t (and_t (and_t (and_t (and_t (and_t (and_t (and_t (and_t (and_t (and_t (and_t (and_t (and_t (and_t (and_t (and_t (and_t (and_t (and_t (and_t (and_t (and_t (and_t (and_t (and_t (and_t (by kernel_rfl) laidOut_t) mapsRowed_t) (by kernel_rfl)) (by kernel_rfl)) (by kernel_rfl)) stops_t) (by kernel_rfl)) stopKnobs_t) inPlace_t) unfollowed_t) recurses_t) named_t) (by kernel_rfl)) (by kernel_rfl)) (by kernel_rfl)) (by kernel_rfl)) (by kernel_rfl)) (by kernel_rfl)) (by kernel_rfl)) (by kernel_rfl)) (by kernel_rfl)) plainKeys_t) (by kernel_rfl)) stopsHeard_t) mayEnter_t) lifts_t) make_t) (by kernel_rfl)) (by kernel_rfl)) (by kernel_rfl)) (by kernel_rfl)
theorem over : Rows.syntaxBlanksRow.holds Try.pinned (OpenSpec.ofChange Rows.syntaxBlanksSpec) :=
 OpenClaim.holds_of_wide 8 Try.f8 rfl rfl rfl rfl rfl rfl rfl ⟨rfl, rfl, rfl, rfl, rfl⟩ rfl rfl rfl rfl rfl (by kernel_rfl) Try.func8 closed
  (of_decide_eq_true (by kernel_rfl)) (by unfold Func.isWrapper; first | (rw [if_pos (by decide +kernel)]; kernel_rfl) | (rw [if_neg (by decide +kernel)]; exact ⟨rfl, rfl⟩))
  (fun os started H enc _ => lifted os started H enc)
theorem proved : Rows.SyntaxBlanksSaid := over
#print axioms proved
end Go.Proofs.Ytldjakeigjngoaa.syntaxBlanks