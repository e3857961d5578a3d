/- BSZ: texts of this proof, joined by program: RSyn14, RSyn15, RSyn16, RSyn17. -/
import Derived.Test.YtldjakeigjngoaaGreatBSR
import Derived.Test.YtldjakeigjngoaaGreatBSS
import Derived.Test.YtldjakeigjngoaaGreatBSW
import Derived.Test.YtldjakeigjngoaaGreatBSX
import Derived.Test.YtldjakeigjngoaaGreatBSV
import Derived.Test.YtldjakeigjngoaaGreatBSY
set_option linter.unusedVariables false
set_option linter.unusedSimpArgs false
namespace Go.Proofs.YtldjakeigjngoaaGreat
open Go.RowKit Bf
def OrdN (g : Nat) (r : List (WordT × WordT) × PS) (u : Value) (es : List En) : Prop := ∃ z : PrA, u = .tuple #[prsV z, .agg ⟨ptW g r.2⟩] ∧ z.l = r.1 ∧ es = [prE z]
structure OrdSt where
 x : PS
 ys : List (WordT × WordT)
 p : Option Addr
 q : Nat
structure OinSt where
 m : Bool
 x : PS
 lo : WordT
 ys : List (WordT × WordT)
 p : Option Addr
 q : Nat
def prVec (ys : List (WordT × WordT)) (p : Option Addr) (q : Nat) : En := vec 87 4 (.slice p ys.length q) ys.length (ys.flatMap pairV)
def qoH (g b1 b3 : Nat) (x : PS) (ys : List (WordT × WordT)) (p : Option Addr) (q : Nat) : List En :=
 [blk b1 74 (ptW g x), prVec ys p q, blk b3 74 zP]
def qcH (g b1 b3 b7 b8 : Nat) (x0 : PS) (s : OinSt) : List En :=
 [blk b8 74 (ptW g s.x), blk b7 36 (wordV s.lo), prVec s.ys s.p s.q, blk b1 74 (ptW g x0), blk b3 74 zP]
section
variable (g : Nat) (x : PS) (w : World)
set_option maxRecDepth 20000 in
set_option maxHeartbeats 8000000 in
theorem rq_order (hx : x.Ok) (hl : x.l.length ≤ 65537) (hT : TkAt g x w) : Calls Tryz.prog 76 #[.agg ⟨ptW g x⟩] w (PostN w (OrdN g (qordB x))) := by
 have hst : St (fun _ => False) w (fun w => TkAt g x w) := St.start (TkAt.bl g x) hT
 have hmay0 := fun w h => rq_may g x w hx h [125]
 by_cases hb : x.mayB [125] = true
 · rw [show qordB x = ([], x.adv) from if_pos hb]
   rw [hb, show x.may [125] = x.adv from if_pos hb] at hmay0
   refine sy_enter rfl rfl ?_
   simp only [initFr]
   repeat (first | refine yK ?_ | refine yP ?_ | refine yL 1 ?_ | (refine yX ?_; intro _) | (refine yA ?_; intro _))
   refine sy_ov (ov_call rfl (fun w hw => hmay0 w (hst.at hw))) rfl rfl ?_
   refine sy_pr0 ?_
   repeat (first | refine yK ?_ | refine yP ?_ | refine yS 0 ?_ | (refine yA ?_; intro _) | refine yT ?_)
   refine sy_draw 2 (by kernel_rfl) ?_
   repeat (first | refine dr_op (ov_p rfl) rfl rfl ?_ | refine dr_op (ov_ld 0 rfl rfl rfl) rfl rfl ?_ | refine dr_end ?_)
   repeat (first | refine yK ?_ | refine yS 2 ?_ | refine sy_rt ?_)
   exact ret2cw 2 rfl rfl rfl rfl rfl rfl fun w' hw' => ⟨_, _, ⟨pr0, rfl, rfl, rfl⟩, rfl, hw'.weaken (sd (sk nl))⟩
 · have hs := QoI.start hx
   obtain ⟨R, hR⟩ : ∃ R, qordGo (x.l.length + 1) x [] = R := ⟨_, rfl⟩
   rw [hR] at hs
   rw [show qordB x = R from (if_neg hb).trans hR]
   have hb : x.mayB [125] = false := by simpa using hb
   rw [hb, show x.may [125] = x from if_neg (by rw [hb]; decide)] at hmay0
   refine sy_enter rfl rfl ?_
   simp only [initFr]
   repeat (first | refine yK ?_ | refine yP ?_ | refine yL 1 ?_ | (refine yX ?_; intro _) | (refine yA ?_; intro _))
   rename_i b1 b3
   refine sy_ov (ov_call rfl (fun w hw => hmay0 w (hst.at hw))) rfl rfl ?_
   repeat (first | refine yK ?_ | refine yP ?_ | refine yS 0 ?_ | (refine yA ?_; intro _) | refine yN ?_)
   refine sy_grow 87 4 ?_
   refine sy_order [3, 0, 2, 1] rfl rfl ?_
   simp only [oX]
   refine sy_loop (α := OrdSt) (fun s => [(1, ptr b1), (3, ptr b3), (6, .slice s.p s.ys.length s.q)]) (fun s => qoH g b1 b3 s.x s.ys s.p s.q) (fun s => QoI x R s.x s.ys) (fun s => qoM s.x) ⟨x, [], none, 0⟩ hs ⟨zz, zz, zz, trivial⟩ (by simp only [qoH, prVec]; exact sk (sk (sk nl))) ?_
   rintro ⟨x', ys, pk, ck⟩ hI
   simp only at hI
   simp only [qoH, prVec]
   have qa := hI.qa
   have hx' := qa.ok
   have a1 := QA.any hx' (by decide : (1 : Int) ≠ 0)
   have a2 := a1.trans (QA.must a1.ok [60])
   by_cases he : x'.e = 0
   · have hlen := hI.len he
     have hpos := hx'.ne
     have al := a2.len
     obtain ⟨R2, hR2⟩ : ∃ R2, qchn x' ys = R2 := ⟨_, rfl⟩
     have hC0 : QcI x x' x.l.length R2 true (qW x') ((x'.any 1).must [60]) ys := ⟨qa.trans a2, a2, by omega, fun _ => by omega, fun _ => ⟨x'.l.length + 1, by omega, hR2⟩, fun h => (by cases h)⟩
     repeat (first | refine yK ?_ | refine yL 0 ?_)
     refine sy_ov (ov_call rfl (fun w _ => rq_fine g x' w true (by simp [he]))) rfl rfl ?_
     repeat (first | refine yK ?_ | refine yL 0 ?_ | refine yT ?_)
     refine sy_ov (ov_call rfl (fun w hw => rq_name g x' w hx' ((hst.at hw).on qa.on))) rfl rfl ?_
     repeat (first | refine yK ?_ | refine yP ?_ | refine yL 0 ?_ | refine yS 0 ?_ | refine yS 1 ?_ | (refine yA ?_; intro _))
     rename_i b7 b8
     refine sy_ov (ov_call rfl (fun w hw => rq_mark g _ w a1.ok ((hst.at hw).on (qa.on.trans a1.on)) [60])) rfl rfl ?_
     repeat (first | refine yK ?_ | refine yP ?_ | refine yS 0 ?_)
     refine sy_order [0, 1, 3, 2, 4] rfl rfl ?_
     simp only [oX]
     refine sy_cells 1 (wordV (qW x')) rfl rfl ?_
     refine sy_loop (α := OinSt) (fun s => [(1, ptr b1), (3, ptr b3), (6, .slice s.p s.ys.length s.q), (7, ptr b7), (8, ptr b8), (9, .bool s.m)]) (fun s => qcH g b1 b3 b7 b8 x' s) (fun s => QcI x x' x.l.length R2 s.m s.lo s.x s.ys) (fun s => qcM s.m s.x) ⟨true, (x'.any 1).must [60], qW x', ys, pk, ck⟩ hC0 ⟨zz, zz, zz, zz, zz, zz, trivial⟩ (by simp only [qcH, prVec]; exact sr) ?_
     rintro ⟨m, x2, lo, ys2, p2, q2⟩ hC
     simp only at hC
     simp only [qcH, prVec]
     have hx2 := hC.qa.ok
     have c1 := QA.any hx2 (by decide : (1 : Int) ≠ 0)
     cases m with
     | true =>
      obtain ⟨hn, hm⟩ := hC.step
      have hle := hC.lem rfl
      repeat (first | refine yK ?_ | refine yP ?_ | refine yL 0 ?_ | refine yT ?_)
      refine sy_ov (ov_call rfl (fun w hw => rq_name g x2 w hx2 ((hst.at hw).on hC.qa.on))) rfl rfl ?_
      repeat (first | refine yK ?_ | refine yP ?_ | refine yL 1 ?_ | refine yL 3 ?_ | refine yS 0 ?_ | refine yS 1 ?_ | refine yB ?_ | (refine yA ?_; intro _))
      refine sy_buildSlice rfl rfl rfl rfl rfl rfl rfl rfl ?_
      intro g2
      refine sy_append 5 0 rfl rfl rfl rfl rfl rfl rfl rfl rfl rfl rfl (by omega) (by show (_ + 1) * 48 ≤ _; omega) ?_
      intro p' q'
      refine sy_weaken (fun _ _ h => h) (sd sr) ?_
      repeat (first | refine yK ?_ | refine yP ?_ | refine yL 0 ?_ | refine yL 1 ?_ | refine yS 3 ?_)
      refine sy_ov (ov_call rfl (fun w hw => rq_may g _ w c1.ok ((hst.at hw).on (hC.qa.on.trans c1.on)) [60])) rfl rfl ?_
      repeat (first | refine yK ?_ | refine yP ?_ | refine yS 2 ?_)
      refine sy_back ⟨(x2.any 1).mayB [60], (x2.any 1).may [60], qW x2, ys2 ++ [(lo, qW x2)], some p', q'⟩ hn hm ⟨zz, zz, ⟨_, rfl, by simp only [lX]⟩, zz, zz, zz, trivial⟩ (by simp only [qcH, prVec, pairs_snoc, lX]; exact sd (sd (sk (sk (sk (sk (sk nl)))))))
     | false =>
      have hq := hC.no rfl
      subst hq
      have hmay1 := fun w h => rq_may g x2 w hx2 h [125]
      by_cases hb1 : x2.mayB [125] = true
      · have hr' := hI.over he (by rw [hR2]; exact hb1)
        rw [hR2] at hr'
        subst hr'
        rw [hb1, show x2.may [125] = x2.adv from if_pos hb1] at hmay1
        repeat (first | refine yK ?_ | refine yP ?_ | refine yL 0 ?_ | refine yN ?_)
        refine sy_ov (ov_call rfl (fun w hw => hmay1 w ((hst.at hw).on hC.qa.on))) rfl rfl ?_
        repeat (first | refine yK ?_ | refine yP ?_ | refine yS 0 ?_ | (refine yA ?_; intro _) | refine yT ?_)
        refine sy_order [3, 0, 1, 2, 4, 5] rfl rfl ?_
        simp only [oX]
        refine sy_prMk ?_
        refine sy_order [0, 1, 5, 2, 3, 4] rfl rfl ?_
        simp only [oX]
        refine sy_draw 3 (by kernel_rfl) ?_
        repeat (first | refine dr_op (ov_p rfl) rfl rfl ?_ | refine dr_op (ov_ld 1 rfl rfl rfl) rfl rfl ?_ | refine dr_end ?_)
        repeat (first | refine yK ?_ | refine yS 2 ?_ | refine sy_rt ?_)
        exact ret2cw 2 rfl rfl rfl rfl rfl rfl fun w' hw' => ⟨_, _, ⟨⟨p2, q2, ys2⟩, rfl, rfl, rfl⟩, rfl, hw'.weaken (sk nl)⟩
      · have hb1 : x2.mayB [125] = false := by simpa using hb1
        obtain ⟨hn1, hm1⟩ := hI.next he (by rw [hR2]; exact hC.len) (by rw [hR2]; exact hb1)
        rw [hR2] at hn1 hm1
        rw [hb1, show x2.may [125] = x2 from if_neg (by rw [hb1]; decide)] at hmay1
        repeat (first | refine yK ?_ | refine yP ?_ | refine yL 0 ?_ | refine yN ?_)
        refine sy_ov (ov_call rfl (fun w hw => hmay1 w ((hst.at hw).on hC.qa.on))) rfl rfl ?_
        repeat (first | refine yK ?_ | refine yP ?_ | refine yL 1 ?_ | refine yS 0 ?_ | (refine yA ?_; intro _) | refine yN ?_)
        refine sy_ov (ov_call rfl (fun w hw => rq_mark g x2 w hx2 ((hst.at hw).on hC.qa.on) [44])) rfl rfl ?_
        repeat (first | refine yK ?_ | refine yS 4 ?_)
        refine sy_order [4, 3, 5, 0, 1, 2] rfl rfl ?_
        simp only [oX]
        refine sy_back ⟨x2.must [44], ys2, p2, q2⟩ hn1 hm1 ⟨zz, zz, zz, trivial⟩ (by simp only [qoH, prVec]; exact sk (sk (sk nl)))
   · have hr' := hI.bad he
     subst hr'
     repeat (first | refine yK ?_ | refine yL 0 ?_)
     refine sy_ov (ov_call rfl (fun w _ => rq_fine g x' w false (by simp [he]))) rfl rfl ?_
     refine sy_pr0 ?_
     repeat (first | refine yK ?_ | refine yN ?_)
     refine sy_draw 2 (by kernel_rfl) ?_
     repeat (first | refine dr_op (ov_p rfl) rfl rfl ?_ | refine dr_op (ov_ld 1 rfl rfl rfl) rfl rfl ?_ | refine dr_end ?_)
     repeat (first | refine yK ?_ | refine yS 3 ?_ | refine sy_rt ?_)
     exact ret2cw 3 rfl rfl rfl rfl rfl rfl fun w' hw' => ⟨_, _, ⟨pr0, rfl, rfl, rfl⟩, rfl, hw'.weaken (sk nl)⟩
end
def SchN (g : Nat) (r : SchP × PS) (u : Value) (es : List En) : Prop := ∃ z : SchA, u = .tuple #[.agg ⟨schV z⟩, .agg ⟨ptW g r.2⟩] ∧ plS z = r.1 ∧ es = [schE z]
theorem sch_eqQ {a a' : List WordT} {b b' : List (WordT × WordT)} {c c' : List (WordT × TypP)} {d d' : TypP} (h1 : a = a') (h2 : b = b') (h3 : c = c') (h4 : d = d') : SchP.mk a b c d = SchP.mk a' b' c' d' := by subst h1 h2 h3 h4; rfl
structure QtSt where
 x : PS
 zs : List NmdA
 p : Option Addr
 q : Nat
def scF (lv od ty : Value) (k a lo hi most : Int) (ns pp : Value) (nm : WordT) : List Value := [lv, od, ty, .int .i64 k, .int .i64 a, .int .i64 lo, .int .i64 hi, .int .i64 most, ns, pp, S nm.1, .int .i64 nm.2]
def scC (lv od ty : Value) : List Value := [lv, od, ty, .int .i64 0, .int .i64 0, .int .i64 0, .int .i64 0, .int .i64 0, .slice none 0 0, .slice none 0 0, S [], .int .i64 0]
def qtH (g b1 b2 b3 b4 : Nat) (lv : WsA) (od : PrA) (s : QtSt) : List En :=
 [blk b4 45 (scC (wsV lv) (prsV od) (.slice s.p s.zs.length s.q)), blk b1 74 (ptW g s.x), vec 89 11 (.slice s.p s.zs.length s.q) s.zs.length (s.zs.flatMap nmdV), nmdsE s.zs, blk b2 45 (scC nilS nilS nilS), blk b3 74 zP, wsE lv, prE od]
section
variable (g : Nat) (x : PS) (w : World)
theorem cut0 {G : Unit → Prop} {T : Prop} (h : (∀ a, G a) → T) (t : ∀ a, G a) : T := h t
theorem cutP {G : PrA → Prop} {T : Prop} (q : PrA → Prop) (h : (∀ od, q od → G od) → T) (t : ∀ od, q od → G od) : T := h t
set_option maxRecDepth 20000 in
set_option maxHeartbeats 8000000 in
theorem rq_schema (hx : x.Ok) (hl : x.l.length ≤ 65537) (hT : TkAt g x w) : Calls Tryz.prog 34 #[.agg ⟨ptW g x⟩] w (PostN w (SchN g (qsch x))) := by
 have hst : St (fun _ => False) w (fun w => TkAt g x w) := St.start (TkAt.bl g x) hT
 have a1 := QA.needK hx (by decide : (1 : Int) ≠ 0) wLevels
 have a2 := a1.trans (QA.must a1.ok [123])
 have a3 := a2.trans (QA.nams a2.ok [125])
 obtain ⟨x2, hx2⟩ : ∃ y, (x.needK 1 wLevels).must [123] = y := ⟨_, rfl⟩
 rw [hx2] at a2 a3
 obtain ⟨x3, hx3⟩ : ∃ y, (qnams [125] x2).2 = y := ⟨_, rfl⟩
 rw [hx3] at a3
 have a4 := a3.trans (QA.ord a3.ok)
 obtain ⟨x4, hx4⟩ : ∃ y, (qord x3).2 = y := ⟨_, rfl⟩
 rw [hx4] at a4
 obtain ⟨R, hR⟩ : ∃ R, qtypsGo (x.l.length + 1) x4 [] = R := ⟨_, rfl⟩
 have hS : qsch x = (⟨(qnams [125] x2).1, (qord x3).1, R.1, (qknd 24 (R.2.needK 1 wRoot)).1⟩, (qknd 24 (R.2.needK 1 wRoot)).2) := by
  subst hR hx4 hx3 hx2; rfl
 have l2 := a2.len
 have l3 := a3.len
 have l4 := a4.len
 have hI0 : QtI x R x4 [] := ⟨a4, by simpa using l4, x.l.length + 1, by omega, hR⟩
 have hd24 : (24 : Int) - ((24 : Nat) : Int) = 0 := by decide
 have hk : ∀ (y : PS) (w : World), y.Ok → y.l.length ≤ 65537 → TkAt g y w → Calls Tryz.prog 29 #[.agg ⟨ptW g y⟩, .int .i64 0] w (PostN w (TyN g (qknd 24 y))) := fun y w h1 h2 h3 => by
  have := rq_kind 24 (Nat.le_refl _) g y w h1 h2 h3
  rw [hd24] at this; exact this
 refine sy_enter rfl rfl ?_
 simp only [initFr]
 repeat (first | refine yK ?_ | refine yL 3 ?_ | (refine yX ?_; intro _) | (refine yA ?_; intro _))
 rename_i b1 b2 b3 b4
 refine sy_cells 0 (scC nilS nilS nilS) rfl rfl ?_
 refine sy_cells 2 (scC nilS nilS nilS) rfl rfl ?_
 simp only [scC, nilS, List.set_cons_zero, List.set_cons_succ]
 refine sy_ov (ov_call rfl (fun w hw => rq_need g x w hx (hst.at hw) 1 (by decide) wLevels)) rfl rfl ?_
 skip
 refine sy_ov (ov_call rfl (fun w hw => rq_mark g _ w a1.ok ((hst.at hw).on a1.on) [123])) rfl rfl ?_
 rw [hx2]
 skip
 refine sy_callN rfl rfl (fun w hw => rq_names g x2 w [125] a2.ok (by omega) ((hst.at hw).on a2.on)) ?_
 rintro _ _ ⟨lv, rfl, hlv, rfl⟩
 rw [hx3]
 simp only [cX]
 refine sy_order [1, 4, 2, 3, 0] rfl rfl ?_
 simp only [oX]
 repeat (first | refine yK ?_ | refine yP ?_ | refine yL 1 ?_ | refine yS 0 ?_ | refine yS 1 ?_ | refine yF ?_)
 have hx3o := a3.ok
 apply cutP (fun od => od.l = (qord x3).1)
 · intro hG
   by_cases hw3 : x3.isB 1 wOrder = true
   · obtain ⟨he3, hk1, hk2⟩ := isB_hd hw3
     have hik : x3.isK 1 wOrder = true := by unfold PS.isK; simp [hk1, hk2]
     have d1 := a3.trans (QA.advB a3.ok hw3)
     have d2 := d1.trans (.must d1.ok [123])
     have e3 : qord x3 = qordB (x3.adv.must [123]) := by unfold qord; rw [if_pos hw3]
     have dl := d2.len
     refine sy_ov (ov_call rfl (fun w _ => rq_fine g x3 w true (by simp [he3]))) rfl rfl ?_
     repeat (first | refine yP ?_ | refine yG ?_ | refine yL 1 ?_)
     refine sy_ov (ov_call rfl (fun w hw => rq_is g x3 w hx3o ((hst.at hw).on a3.on) 1 wOrder)) rfl rfl ?_
     rw [hik]
     repeat (first | refine yK ?_ | refine yL 1 ?_ | refine yM ?_ | refine yT ?_)
     refine sy_ov (ov_call rfl (fun w _ => rq_on g x3 w hx3o (by rw [hk1]; decide))) rfl rfl ?_
     skip
     refine sy_ov (ov_call rfl (fun w hw => rq_mark g _ w d1.ok ((hst.at hw).on d1.on) [123])) rfl rfl ?_
     skip
     refine sy_callN rfl rfl (fun w hw => rq_order g _ w d2.ok (by omega) ((hst.at hw).on d2.on)) ?_
     rintro _ _ ⟨od, rfl, hod, rfl⟩
     rw [← e3] at hod
     rw [← e3, hx4]
     simp only [cX]
     repeat (first | refine yK ?_ | refine yP ?_ | refine yS 1 ?_ | refine yS 2 ?_ | refine yF ?_)
     refine sy_cells 1 (scC (wsV lv) (prsV od) nilS) rfl rfl ?_
     simp only [scC, nilS, List.set_cons_zero, List.set_cons_succ]
     refine sy_nmds0 ?_
     refine sy_grow 89 11 ?_
     refine sy_order [3, 4, 0, 1, 6, 5, 7, 2] rfl rfl ?_
     simp only [oX]
     refine sy_frame [(1, ptr b1), (2, ptr b2), (3, ptr b3), (4, ptr b4)] ⟨zz, zz, zz, zz, trivial⟩ ?_
     exact hG od hod
   · have hw3 : x3.isB 1 wOrder = false := by simpa using hw3
     have e3 : qord x3 = ([], x3) := by unfold qord; rw [if_neg (by rw [hw3]; decide)]
     have e4 : x3 = x4 := by rw [← hx4, e3]
     have hod : pr0.l = (qord x3).1 := by rw [e3]; rfl
     by_cases he3 : x3.e = 0
     · have hik : x3.isK 1 wOrder = false := by
        unfold PS.isB at hw3; rw [he3] at hw3; unfold PS.isK; simpa using hw3
       refine sy_ov (ov_call rfl (fun w _ => rq_fine g x3 w true (by simp [he3]))) rfl rfl ?_
       repeat (first | refine yP ?_ | refine yG ?_ | refine yL 1 ?_)
       refine sy_ov (ov_call rfl (fun w hw => rq_is g x3 w hx3o ((hst.at hw).on a3.on) 1 wOrder)) rfl rfl ?_
       rw [hik]
       repeat (first | refine yK ?_ | refine yM ?_ | refine yN ?_)
       refine sy_cells 0 (scC (wsV lv) (prsV pr0) nilS) rfl rfl ?_
       simp only [scC, nilS, List.set_cons_zero, List.set_cons_succ]
       rw [e4]
       refine sy_pr0 ?_
       refine sy_nmds0 ?_
       refine sy_grow 89 11 ?_
       refine sy_order [3, 4, 0, 1, 6, 5, 7, 2] rfl rfl ?_
       simp only [oX]
       refine sy_frame [(1, ptr b1), (2, ptr b2), (3, ptr b3), (4, ptr b4)] ⟨zz, zz, zz, zz, trivial⟩ ?_
       exact hG pr0 hod
     · refine sy_ov (ov_call rfl (fun w _ => rq_fine g x3 w false (by simp [he3]))) rfl rfl ?_
       repeat (first | refine yK ?_ | refine yP ?_ | refine yH ?_ | refine sy_ov (ov_pick rfl rfl rfl) rfl rfl ?_ | refine yN ?_)
       refine sy_cells 0 (scC (wsV lv) (prsV pr0) nilS) rfl rfl ?_
       simp only [scC, nilS, List.set_cons_zero, List.set_cons_succ]
       rw [e4]
       refine sy_pr0 ?_
       refine sy_nmds0 ?_
       refine sy_grow 89 11 ?_
       refine sy_order [3, 4, 0, 1, 6, 5, 7, 2] rfl rfl ?_
       simp only [oX]
       refine sy_frame [(1, ptr b1), (2, ptr b2), (3, ptr b3), (4, ptr b4)] ⟨zz, zz, zz, zz, trivial⟩ ?_
       exact hG pr0 hod
 · intro od hod
   refine sy_loop (α := QtSt) (fun _ => [(1, ptr b1), (2, ptr b2), (3, ptr b3), (4, ptr b4)]) (fun s => qtH g b1 b2 b3 b4 lv od s) (fun s => QtI x R s.x (s.zs.map plN)) (fun s => s.x.l.length) ⟨x4, [], none, 0⟩ hI0 ⟨zz, zz, zz, zz, trivial⟩ (by simp only [qtH, scC, nilS]; exact sr) ?_
   rintro ⟨x', zs, pz, cz⟩ hI
   simp only at hI
   simp only [qtH, scC, nilS]
   have hx' := hI.qa.ok
   have hlen := hI.len
   have hl' := hI.qa.len
   rw [List.length_map] at hlen
   by_cases hb : x'.isB 1 wType = true
   · obtain ⟨he', hk1, hk2⟩ := isB_hd hb
     have hik : x'.isK 1 wType = true := by unfold PS.isK; simp [hk1, hk2]
     obtain ⟨hn, hm⟩ := hI.step hb
     have g0 := QA.advB hx' hb
     have g1 := g0.trans (.any g0.ok (by decide : (1 : Int) ≠ 0))
     have g2 := g1.trans (.must g1.ok [61])
     have gl := g2.len
     have hpos := hx'.ne
     repeat (first | refine yK ?_ | refine yL 1 ?_)
     refine sy_ov (ov_call rfl (fun w _ => rq_fine g x' w true (by simp [he']))) rfl rfl ?_
     repeat (first | refine yP ?_ | refine yG ?_ | refine yL 1 ?_)
     refine sy_ov (ov_call rfl (fun w hw => rq_is g x' w hx' ((hst.at hw).on hI.qa.on) 1 wType)) rfl rfl ?_
     rw [hik]
     repeat (first | refine yK ?_ | refine yL 1 ?_ | refine yM ?_ | refine yT ?_)
     refine sy_ov (ov_call rfl (fun w _ => rq_on g x' w hx' (by rw [hk1]; decide))) rfl rfl ?_
     skip
     refine sy_ov (ov_call rfl (fun w hw => rq_name g _ w g0.ok ((hst.at hw).on (hI.qa.on.trans g0.on)))) rfl rfl ?_
     repeat (first | refine yK ?_ | refine yP ?_ | refine yL 0 ?_ | refine yS 0 ?_ | refine yS 1 ?_ | (refine yA ?_; intro _))
     refine sy_ov (ov_call rfl (fun w hw => rq_mark g _ w g1.ok ((hst.at hw).on (hI.qa.on.trans g1.on)) [61])) rfl rfl ?_
     skip
     refine sy_callN rfl rfl (fun w hw => hk _ w g2.ok (by omega) ((hst.at hw).on (hI.qa.on.trans g2.on))) ?_
     rintro _ _ ⟨z, rfl, hz, rfl⟩
     obtain ⟨zk, za, zlo, zhi, zmo, zns, zpp, zcp, zparts, znm⟩ := z
     simp only [cX]
     refine sy_weaken (fun _ _ h => h) (sk (sd sr)) ?_
     refine sy_order [2, 1, 3, 0, 4, 5, 6, 7, 8, 9] rfl rfl ?_
     simp only [oX]
     repeat (first | refine yK ?_ | refine yP ?_ | refine yL 1 ?_ | refine yL 2 ?_ | refine yL 3 ?_ | refine yS 0 ?_ | refine yS 1 ?_ | refine yF ?_ | refine yB ?_ | (refine yA ?_; intro _))
     rename_i n5 n6 n7 n8
     refine sy_cells 0 (ptW g (qknd 24 ((x'.adv.any 1).must [61])).2) rfl rfl ?_
     simp only [List.set_cons_zero, List.set_cons_succ]
     refine sy_weaken (fun _ _ h => h) (sk (sd (sk (sd sr)))) ?_
     refine sy_frame [(1, ptr b1), (2, ptr b2), (3, ptr b3), (4, ptr b4), (8, ptr n8), (50, .slice pz zs.length cz), (53, .agg ⟨nmdV ⟨qW x'.adv, .mk zk za zlo zhi zmo zns zpp zcp zparts znm⟩⟩)] ⟨zz, zz, zz, zz, zz, zz, zz, trivial⟩ ?_
     refine sy_buildSlice rfl rfl rfl rfl rfl rfl rfl rfl ?_
     intro g9
     refine sy_cells 0 (nmdV ⟨qW x'.adv, .mk zk za zlo zhi zmo zns zpp zcp zparts znm⟩) rfl rfl ?_
     simp only [List.set_cons_zero]
     refine sy_append 5 0 rfl rfl rfl rfl rfl rfl rfl rfl rfl rfl rfl (by omega) (by show (_ + 1) * 136 ≤ _; omega) ?_
     intro pn qn
     refine sy_weaken (fun _ _ h => h) (sd sr) ?_
     repeat (first | refine yK ?_ | refine yL 0 ?_ | refine yS 1 ?_ | refine yS 2 ?_ | refine yF ?_)
     refine sy_cells 1 (scC (wsV lv) (prsV od) (.slice (some pn) (zs.length + 1) qn)) rfl rfl ?_
     refine sy_cells 2 (ptW g (qknd 24 ((x'.adv.any 1).must [61])).2) rfl rfl ?_
     simp only [scC, nilS, List.set_cons_zero, List.set_cons_succ]
     refine sy_order [5, 3, 1, 2, 4, 6, 7, 8, 9, 0] rfl rfl ?_
     simp only [oX]
     refine sy_nmdsAdd (z := ⟨qW x'.adv, .mk zk za zlo zhi zmo zns zpp zcp zparts znm⟩) ?_
     refine sy_order [1, 2, 3, 0, 4, 5, 6, 7, 8] rfl rfl ?_
     simp only [oX]
     refine sy_back ⟨(qknd 24 ((x'.adv.any 1).must [61])).2, zs ++ [⟨qW x'.adv, .mk zk za zlo zhi zmo zns zpp zcp zparts znm⟩], some pn, qn⟩ ?_ hm ⟨zz, zz, zz, zz, trivial⟩ (by simp only [qtH, scC, nilS, nmds_snoc, lX]; exact sk (sk (sk (sk (sk (sk (sk (sk nl))))))))
     simp only [List.map_append, List.map_cons, List.map_nil, plN]
     rw [hz]; exact hn
   · have hb : x'.isB 1 wType = false := by simpa using hb
     have hr' := hI.over hb
     subst hr'
     have c1 := QA.needK hx' (by decide : (1 : Int) ≠ 0) wRoot
     apply cut0
     · intro hG
       have dm : Unit := ()
       by_cases he' : x'.e = 0
       · have hik : x'.isK 1 wType = false := by
          unfold PS.isB at hb; rw [he'] at hb; unfold PS.isK; simpa using hb
         repeat (first | refine yK ?_ | refine yL 1 ?_)
         refine sy_ov (ov_call rfl (fun w _ => rq_fine g x' w true (by simp [he']))) rfl rfl ?_
         repeat (first | refine yP ?_ | refine yG ?_ | refine yL 1 ?_)
         refine sy_ov (ov_call rfl (fun w hw => rq_is g x' w hx' ((hst.at hw).on hI.qa.on) 1 wType)) rfl rfl ?_
         rw [hik]
         repeat (first | refine yK ?_ | refine yL 1 ?_ | refine yM ?_ | refine yN ?_)
         refine sy_frame [(1, ptr b1), (2, ptr b2), (3, ptr b3), (4, ptr b4), (59, .agg ⟨ptW g x'⟩)] ⟨zz, zz, zz, zz, zz, trivial⟩ ?_
         exact hG dm
       · repeat (first | refine yK ?_ | refine yL 1 ?_)
         refine sy_ov (ov_call rfl (fun w _ => rq_fine g x' w false (by simp [he']))) rfl rfl ?_
         repeat (first | refine yK ?_ | refine yP ?_ | refine yH ?_ | refine yL 1 ?_ | refine sy_ov (ov_pick rfl rfl rfl) rfl rfl ?_ | refine yN ?_)
         refine sy_frame [(1, ptr b1), (2, ptr b2), (3, ptr b3), (4, ptr b4), (59, .agg ⟨ptW g x'⟩)] ⟨zz, zz, zz, zz, zz, trivial⟩ ?_
         exact hG dm
     intro dm
     refine sy_ov (ov_call rfl (fun w hw => rq_need g x' w hx' ((hst.at hw).on hI.qa.on) 1 (by decide) wRoot)) rfl rfl ?_
     skip
     refine sy_callN rfl rfl (fun w hw => hk _ w c1.ok (by have := c1.len; omega) ((hst.at hw).on (hI.qa.on.trans c1.on))) ?_
     rintro _ _ ⟨z, rfl, hz, rfl⟩
     obtain ⟨zk, za, zlo, zhi, zmo, zns, zpp, zcp, zparts, znm⟩ := z
     simp only [cX]
     refine sy_order [7, 8, 3, 4, 0, 1, 2, 5, 6] rfl rfl ?_
     simp only [oX]
     refine sy_schMk ?_
     repeat (first | refine yK ?_ | refine yP ?_ | refine yS 1 ?_ | refine yS 2 ?_ | refine yF ?_)
     refine sy_cells 1 (scF (wsV lv) (prsV od) (.slice pz zs.length cz) zk za zlo zhi zmo (wsV zns) (.slice zpp zparts.length zcp) znm) rfl rfl ?_
     refine sy_cells 2 (ptW g (qknd 24 (x'.needK 1 wRoot)).2) rfl rfl ?_
     simp only [scF, List.set_cons_zero, List.set_cons_succ]
     refine sy_drawE _ 3 [(0, false), (1, false), (2, true)] (by kernel_rfl) rfl ((sd (sk (sk nl)))) ?_
     repeat (first | refine dre_rd (fun _ _ => ov_ld 0 rfl rfl rfl) rfl ?_ | refine dre_rd (fun _ _ => ov_ld 1 rfl rfl rfl) rfl ?_ | (refine dre_ef rfl ?_; refine yS 3 ?_; refine dre_ek (by repeat first | exact sr | apply sk | apply sd) ?_) | refine dre_end ?_)
     repeat (first | refine yK ?_ | refine yS 4 ?_ | refine sy_rt ?_)
     exact ret_ccw 3 4 rfl rfl rfl rfl rfl rfl rfl rfl rfl fun w' hw' => ⟨_, _, ⟨⟨lv, od, pz, cz, zs, .mk zk za zlo zhi zmo zns zpp zcp zparts znm⟩, by rw [hS]; rfl, by rw [hS]; exact sch_eqQ hlv hod rfl hz, rfl⟩, rfl, hw'.weaken (sk nl)⟩
end
theorem schR_q {s : List UInt8} {L : List TokT} {y : SchP × PS} (hL : scanR s = (L, 0, 0)) (hT : TokOk L) (hr : Rv L (schP L cur0) y) (hy : y.2.Ok) :
 (y.2.e ≠ 0 → schR s = (zsP, y.2.e, y.2.a)) ∧ (y.2.e = 0 → (hdT y.2.l).1 = 0 → schR s = (y.1, 0, 0)) ∧ (y.2.e = 0 → (hdT y.2.l).1 ≠ 0 → schR s = (zsP, (oddE (hdT y.2.l)).1, (oddE (hdT y.2.l)).2)) := by
 have hc0 : CurOk L cur0 := ⟨by decide, by have := hT.n; simp only [cur0]; omega, by decide, by decide⟩
 have a1 := Adv.sch hT hc0 rfl
 obtain ⟨h1, h2⟩ := hr
 have hR : schR s = if (endC L (schP L cur0).2).e ≠ 0 then (zsP, (endC L (schP L cur0).2).e, (endC L (schP L cur0).2).a) else ((schP L cur0).1, (endC L (schP L cur0).2).e, (endC L (schP L cur0).2).a) := by
  unfold schR; rw [hL]; simp
 rw [hR]
 refine ⟨fun he => ?_, fun he h0 => ?_, fun he h0 => ?_⟩
 · have hce : (schP L cur0).2.e ≠ 0 := by rw [← h1.e]; exact he
   have hn : endC L (schP L cur0).2 = (schP L cur0).2 := by unfold endC; rw [if_neg (fun h => hce h.1)]
   rw [hn, if_pos hce, ← h1.e, h1.a hce]
 · have hce : (schP L cur0).2.e = 0 := by rw [← h1.e]; exact he
   have hp := h1.hd a1.ok hce
   have hn : endC L (schP L cur0).2 = (schP L cur0).2 := by unfold endC; rw [if_neg (fun h => h.2 (by rw [← hp]; exact h0))]
   rw [hn, if_neg (fun h => h hce), hce, a1.za rfl rfl hce, h2 hce]
 · have hce : (schP L cur0).2.e = 0 := by rw [← h1.e]; exact he
   have hp := h1.hd a1.ok hce
   have hn : endC L (schP L cur0).2 = ⟨(schP L cur0).2.i, (schP L cur0).2.d, 4, (hdT y.2.l).2.1⟩ := by
    unfold endC; rw [if_pos ⟨hce, by rw [← hp]; exact h0⟩]
    unfold failT failAtT; rw [if_pos ⟨hce, by decide⟩, hp]
   rw [hn, if_pos (show (4 : Int) ≠ 0 by decide)]
   unfold oddE; rw [if_neg h0]
set_option maxRecDepth 20000 in
set_option maxHeartbeats 8000000 in
theorem rq_parse (s : List UInt8) (hs : s.length ≤ 100000000) (w : World) : Calls Tryz.prog 15 #[S s] w (PostN w (PaP s)) := by
 obtain ⟨L, e, a, hL⟩ : ∃ L e a, scanR s = (L, e, a) := ⟨_, _, _, rfl⟩
 by_cases he : e = 0
 · subst he
   have ha := scanR_a0 hL
   subst ha
   have hT := (scanR_toks hL (scanR_cnt hL)).1
   have hZ : TokZ L := by have := scanR_nz s; rw [hL] at this; exact this
   have hE : TokE L := by have := scanR_e s; rw [hL] at this; exact this
   have hc0 : CurOk L cur0 := ⟨by decide, by have := hT.n; simp only [cur0]; omega, by decide, by decide⟩
   refine sy_enter rfl rfl ?_
   simp only [initFr]
   repeat (first | refine yK ?_ | refine yP ?_ | (refine yA ?_; intro _))
   refine sy_calln rfl rfl (fun w _ => rscan_c s (by omega) w) ?_
   rintro _ _ ⟨p, q, rfl, rfl⟩
   rw [hL]
   dsimp only
   refine sy_vecAddr 0 rfl hT.n ?_
   rintro g rfl
   refine sy_vecMax 0 rfl fun hq hqm => ?_
   obtain ⟨x0, hx0⟩ : ∃ x0 : PS, x0 = ⟨0, L, q, 0, 0, 0⟩ := ⟨_, rfl⟩
   have hok : x0.Ok := by
    subst hx0
    exact ⟨hT.n, fun i t hi h0 => by
     have h1 := (List.getElem?_eq_some_iff.1 hi).1
     have h2 := not_congr (hT.fin i t hi)
     have := h2.1 h0
     simp only at h1 ⊢; omega, hq, hqm, fun t ht => (hT.bd t ht).2, hZ⟩
   have hk := fun w => rq_schema g x0 w
   have hrl : Rl L cur0 x0 := by subst hx0; exact ⟨rfl, fun h => absurd rfl h, fun _ => rfl⟩
   have hrv := hrl.sch hT hc0 rfl
   have hqa := QA.sch hok
   obtain ⟨t1, t2, t3⟩ := schR_q hL hT hrv hqa.ok
   have htk : ∀ w, IsSl w 5 (some ⟨g, 0, none⟩) L.length (L.flatMap tokV) → TkAt g x0 w := fun w h => tk_of h hT.n (by rw [hx0]) (by rw [hx0])
   have hlen : x0.l.length ≤ 65537 := by rw [hx0]; exact hT.big
   have hmem : ∀ t ∈ (qsch x0).2.l, t ∈ L := fun t ht => by
    obtain ⟨j, _, h2, _⟩ := hqa.on
    rw [h2] at ht
    have := List.mem_of_mem_drop ht
    rw [hx0] at this; exact this
   have hEy : (hdT (qsch x0).2.l).1 = 0 → (hdT (qsch x0).2.l).2.2.2.1 = [] := fun h => by
    obtain ⟨t, ht, hh⟩ := hqa.ok.hd
    rw [hh] at h ⊢
    exact hE t (hmem t (List.mem_of_getElem? ht)) h
   rw [show ptW g x0 = ptW g ⟨0, L, q, 0, 0, 0⟩ by rw [hx0]] at hk
   repeat (first | refine yK ?_ | refine yP ?_ | refine yL 0 ?_ | refine yS 0 ?_ | refine yF ?_ | refine yB ?_ | (refine yA ?_; intro _) | refine yN ?_)
   refine sy_callN rfl rfl (fun w hw => hk w hok hlen (htk w (vec_isSl hw (i := 1) rfl))) ?_
   rintro _ _ ⟨z, rfl, hz, rfl⟩
   clear hk
   obtain ⟨zlv, zod, ztp, ztc, zty, ⟨zk, za, zlo, zhi, zmo, zns, zpp, zcp, zparts, znm⟩⟩ := z
   simp only [cX]
   repeat (first | refine yK ?_ | refine yP ?_ | refine yL 0 ?_ | refine yS 0 ?_ | refine yS 1 ?_ | (refine yA ?_; intro _))
   refine sy_cells 1 (schC (wsV zlv) (prsV zod) (.slice ztp zty.length ztc) zk za zlo zhi zmo (wsV zns) (.slice zpp zparts.length zcp) znm) rfl (upd0 _ _ rfl) ?_
   simp only [schC, List.set_cons_zero, List.set_cons_succ]
   refine sy_order [0, 1, 2, 5, 6, 4, 3] rfl rfl ?_
   simp only [oX]
   refine sy_callN rfl rfl (fun w hw => rq_need0 g _ w hqa.ok hEy ((htk w (vec_isSl hw (i := 5) rfl)).on hqa.on)) ?_
   rintro _ _ ⟨vp, vn, vc, e2, a2, rfl, rfl, hA, hB, hC⟩
   simp only [List.nil_append]
   by_cases hye : (qsch x0).2.e = 0
   · by_cases h0 : (hdT (qsch x0).2.l).1 = 0
     · have hR := t2 hye h0
       have he2 : decide (e2 = 0) = true := by simpa using hB hye h0
       repeat (first | refine yK ?_ | refine yL 0 ?_ | refine yS 0 ?_)
       refine sy_ov (ov_call rfl (fun w _ => rq_fine2 w (.slice vp vn vc) e2 a2 true he2)) rfl rfl ?_
       repeat (first | refine yK ?_ | refine yP ?_ | refine yL 1 ?_ | refine yS 3 ?_ | refine yS 4 ?_ | refine yB ?_ | refine yN ?_ | refine sy_rt ?_)
       exact ret_ccw 4 3 rfl rfl rfl rfl rfl rfl rfl rfl rfl fun w' hw' => ⟨_, _, ⟨⟨zlv, zod, ztp, ztc, zty, .mk zk za zlo zhi zmo zns zpp zcp zparts znm⟩, by rw [hR]; rfl, by rw [hR]; exact hz, rfl⟩, rfl, hw'.weaken (sd (sd (sk nl)))⟩
     · have hR := t3 hye h0
       obtain ⟨g1, g2⟩ := hC hye h0
       have hne2 : e2 ≠ 0 := by rw [g1]; exact oddE_ne _
       have hP : PaP s (.tuple #[.agg ⟨schV sch0⟩, faultV e2 a2]) [schE sch0] := ⟨sch0, by rw [hR, g1, g2], by rw [hR]; exact plS0, rfl⟩
       have he2 : decide (e2 = 0) = false := by simpa using hne2
       repeat (first | refine yK ?_ | refine yL 0 ?_ | refine yS 0 ?_)
       refine sy_ov (ov_call rfl (fun w _ => rq_fine2 w (.slice vp vn vc) e2 a2 false he2)) rfl rfl ?_
       repeat (first | refine yK ?_ | refine yP ?_ | refine yT ?_)
       refine sy_sch0 ?_
       refine sy_drawE _ 4 [(0, false), (1, false), (2, false), (3, true)] (by kernel_rfl) rfl ((sd (sk nl))) ?_
       repeat (first | refine dre_rd (fun _ _ => ov_ld 0 rfl rfl rfl) rfl ?_ | refine dre_rd (fun _ _ => ov_fieldAddr rfl rfl rfl) rfl ?_ | refine dre_rd (fun _ _ => ov_build rfl rfl rfl) rfl ?_ | (refine dre_ef rfl ?_; refine yS 5 ?_; refine dre_ek (by repeat first | exact sr | apply sk | apply sd) ?_) | refine dre_end ?_)
       repeat (first | refine yK ?_ | refine yS 4 ?_ | refine sy_rt ?_)
       exact ret_ccw 5 4 rfl rfl rfl rfl rfl rfl rfl rfl rfl fun w' hw' => ⟨_, _, hP, rfl, hw'.weaken (sk nl)⟩
   · have hR := t1 hye
     obtain ⟨g1, g2⟩ := hA hye
     have hne2 : e2 ≠ 0 := by rw [g1]; exact hye
     have hP : PaP s (.tuple #[.agg ⟨schV sch0⟩, faultV e2 a2]) [schE sch0] := ⟨sch0, by rw [hR, g1, g2], by rw [hR]; exact plS0, rfl⟩
     have he2 : decide (e2 = 0) = false := by simpa using hne2
     repeat (first | refine yK ?_ | refine yL 0 ?_ | refine yS 0 ?_)
     refine sy_ov (ov_call rfl (fun w _ => rq_fine2 w (.slice vp vn vc) e2 a2 false he2)) rfl rfl ?_
     repeat (first | refine yK ?_ | refine yP ?_ | refine yT ?_)
     refine sy_sch0 ?_
     refine sy_drawE _ 4 [(0, false), (1, false), (2, false), (3, true)] (by kernel_rfl) rfl ((sd (sk nl))) ?_
     repeat (first | refine dre_rd (fun _ _ => ov_ld 0 rfl rfl rfl) rfl ?_ | refine dre_rd (fun _ _ => ov_fieldAddr rfl rfl rfl) rfl ?_ | refine dre_rd (fun _ _ => ov_build rfl rfl rfl) rfl ?_ | (refine dre_ef rfl ?_; refine yS 5 ?_; refine dre_ek (by repeat first | exact sr | apply sk | apply sd) ?_) | refine dre_end ?_)
     repeat (first | refine yK ?_ | refine yS 4 ?_ | refine sy_rt ?_)
     exact ret_ccw 5 4 rfl rfl rfl rfl rfl rfl rfl rfl rfl fun w' hw' => ⟨_, _, hP, rfl, hw'.weaken (sk nl)⟩
 · have hR : schR s = (zsP, e, a) := by unfold schR; rw [hL, if_pos he]
   refine sy_enter rfl rfl ?_
   simp only [initFr]
   repeat (first | refine yK ?_ | refine yP ?_ | (refine yA ?_; intro _))
   refine sy_calln rfl rfl (fun w _ => rscan_c s (by omega) w) ?_
   rintro _ _ ⟨p, q, rfl, rfl⟩
   rw [hL]
   dsimp only
   repeat (first | refine yK ?_ | refine yP ?_ | refine yL 0 ?_ | refine yS 0 ?_ | refine yF ?_ | (refine yA ?_; intro _) | refine yT ?_)
   refine sy_sch0 ?_
   refine sy_drawE _ 3 [(0, false), (1, false), (2, true)] (by kernel_rfl) rfl ((sd (sk nl))) ?_
   repeat (first | refine dre_rd (fun _ _ => ov_ld 0 rfl rfl rfl) rfl ?_ | refine dre_rd (fun _ _ => ov_build rfl rfl rfl) rfl ?_ | (refine dre_ef rfl ?_; refine yS 4 ?_; refine dre_ek (by repeat first | exact sr | apply sk | apply sd) ?_) | refine dre_end ?_)
   repeat (first | refine yK ?_ | refine yS 3 ?_ | refine sy_rt ?_)
   exact ret_ccw 4 3 rfl rfl rfl rfl rfl rfl rfl rfl rfl fun w' hw' => ⟨_, _, ⟨sch0, by rw [hR]; rfl, by rw [hR]; exact plS0, rfl⟩, rfl, hw'.weaken (sk nl)⟩
section
variable {P : Program} {C : Cx} {fr : Fr} {hp : List En} {dst : Option Tmp} {ty : TypeId} {pos : String} {aft : Array Edge} {g : Option (Nat × Bool)}
theorem ov_elemF {α : Type} {t : TypeId} {d : TypeDesc} {ti : TypeInfo} [hd : TU P t d] [hti : TI P t ti] {x : Operand} {f : α → List Value} {l : List α} {b off i j k : Nat} {y : α} {vs : List Value} (hat : St C.D C.w0 fun w => At w b off (l.flatMap f)) (hl : l[i]? = some y) (hx : ev fr x = some (.pointer (some ⟨b, off + i * k + j, none⟩))) (ha : isAggD d = true) (hk : ∀ x, (f x).length = k) (hs : vs.length = ti.size) (hv : ∀ m u, vs[m]? = some u → (f y)[j + m]? = some u) :
 OV P C fr hp ⟨dst, .load t x, ty, pos, aft, g⟩ (.agg ⟨vs⟩) :=
 ov_loadxa hx ha hs fun w hw m u hm => by
  have := hat.at hw (i * k + (j + m)) u (flat_get f k hk l i y hl (j + m) u (hv m u hm))
  rw [show off + i * k + j + m = off + (i * k + (j + m)) by omega]; exact this
end
instance : KS Tryz.prog 87 [.s, .i .i64, .s, .i .i64] := ⟨by kernel_rfl, by kernel_rfl, by kernel_rfl⟩
theorem eqPr (x : WordT × WordT) : eqL (pairV x) (pairV x) = true := by simp [pairV, wordV, eqL, eqC]
theorem app_get1 {vs r : List Value} (m : Nat) (u : Value) (h : vs[m]? = some u) : (vs ++ r)[0 + m]? = some u := by
 rw [Nat.zero_add, List.getElem?_append_left (List.getElem?_eq_some_iff.1 h).1]; exact h
theorem app_get2 {a vs : List Value} {k : Nat} (hk : a.length = k) (m : Nat) (u : Value) (h : vs[m]? = some u) : (a ++ vs)[k + m]? = some u := by
 subst hk
 rw [List.getElem?_append_right (by omega), Nat.add_sub_cancel_left]; exact h
def allC (lv od ty : Value) (k a lo hi most : Int) (ns pp : Value) (nm : WordT) : List Value := [lv, od, ty, .int .i64 k, .int .i64 a, .int .i64 lo, .int .i64 hi, .int .i64 most, ns, pp, S nm.1, .int .i64 nm.2]
set_option maxRecDepth 20000 in
set_option maxHeartbeats 8000000 in
theorem rq_all (z z2 : SchA) (w : World) (hw1 : SchJ w z) (hw2 : SchJ w z2) (hpl : plS z = plS z2) : Calls Tryz.prog 16 #[.agg ⟨schV z⟩, .agg ⟨schV z2⟩] w fun e w' => e = .returned (.bool true) ∧ Below w.heap.size w w' := by
 obtain ⟨lv, ⟨po, qo, os⟩, tp, tc, ty, rt⟩ := z
 obtain ⟨lv', ⟨po', qo', os'⟩, tp', tc', ty', rt'⟩ := z2
 simp only [plS, SchP.mk.injEq] at hpl
 obtain ⟨hlv, rfl, hty, hrt⟩ := hpl
 obtain ⟨wl, ⟨om, wo⟩, tm, wt, wn, wr⟩ := hw1
 obtain ⟨wl', ⟨om', wo'⟩, tm', wt', wn', wr'⟩ := hw2
 simp only at wl wl' om wo tm wt wn wr om' wo' tm' wt' wn' wr'
 have hlen : ty.length = ty'.length := by have := congrArg List.length hty; simpa using this
 have hom : os.length ≤ 9223372036854775807 := om
 have htm : ty.length ≤ 9223372036854775807 := tm
 have sl := ws_st wl
 have sl' := ws_st wl'
 have so : St (fun _ => False) w (fun w => IsSl w 4 po os.length (os.flatMap pairV)) := St.start (IsSl.bl _ _ _ _) wo
 have so' : St (fun _ => False) w (fun w => IsSl w 4 po' os.length (os.flatMap pairV)) := St.start (IsSl.bl _ _ _ _) wo'
 have st : St (fun _ => False) w (fun w => IsSl w 11 tp ty.length (ty.flatMap nmdV)) := St.start (IsSl.bl _ _ _ _) wt
 have st' : St (fun _ => False) w (fun w => IsSl w 11 tp' ty'.length (ty'.flatMap nmdV)) := St.start (IsSl.bl _ _ _ _) wt'
 have sn : St (fun _ => False) w (fun w => NmdsJ w ty) := St.start (fun _ _ hb h => NmdsJ.bl hb _ h) wn
 have sn' : St (fun _ => False) w (fun w => NmdsJ w ty') := St.start (fun _ _ hb h => NmdsJ.bl hb _ h) wn'
 have sr1 : St (fun _ => False) w (fun w => TypJ w rt) := St.start (TypJ.bl rt) wr
 have sr2 : St (fun _ => False) w (fun w => TypJ w rt') := St.start (TypJ.bl rt') wr'
 rw [← hlen] at st'
 have hroot := fun w => rq_same _ rt (Nat.le_refl _) rt' w
 have hrec : ∀ (a b : TypA) (w : World), TypJ w a → TypJ w b → plT a = plT b → Calls Tryz.prog 13 #[.agg ⟨typV a⟩, .agg ⟨typV b⟩] w fun e w' => e = .returned (.bool true) ∧ Below w.heap.size w w' := fun a b w => rq_same _ a (Nat.le_refl _) b w
 obtain ⟨rk, ra, rlo, rhi, rmo, rns, rpp, rcp, rparts, rn⟩ := rt
 obtain ⟨sk', sa, slo, shi, smo, sns, spp, scp, sparts, sn2⟩ := rt'
 simp only [schV, prsV, typV, cX]
 rw [← hlen]
 refine sy_enter rfl rfl ?_
 simp only [initFr]
 repeat (first | refine yK ?_ | refine yP ?_ | refine yL 0 ?_ | refine yL 1 ?_ | refine yF ?_ | (refine yX ?_; intro _))
 rename_i b2 b3
 refine sy_ov (ov_call rfl (fun w hw => rq_words lv lv' w (sl.at hw) (sl'.at hw) hlv)) rfl rfl ?_
 repeat (first | refine yP ?_ | refine yG ?_ | refine sy_ov (ov_lens rfl) rfl rfl ?_ | refine yL 0 ?_ | refine yL 1 ?_ | refine yE ?_ | refine yF ?_)
 refine sy_ov (ov_call rfl (fun w hw => hroot w (sr1.at hw) (sr2.at hw) hrt)) rfl rfl ?_
 repeat (first | refine yK ?_ | refine yP ?_ | refine yG ?_ | refine yE ?_ | refine yN ?_)
 refine sy_loop (α := Int) (fun i => [(2, ptr b2), (3, ptr b3), (5, .int .i64 i)]) (fun _ => [blk b3 45 (allC (wsV lv') (.slice po' os.length qo') (.slice tp' ty.length tc') sk' sa slo shi smo (wsV sns) (.slice spp sparts.length scp) sn2), blk b2 45 (allC (wsV lv) (.slice po os.length qo) (.slice tp ty.length tc) rk ra rlo rhi rmo (wsV rns) (.slice rpp rparts.length rcp) rn)]) (fun i => 0 ≤ i ∧ i ≤ os.length) (fun i => (os.length - i).toNat) 0 ⟨by omega, by omega⟩ ⟨zz, zz, zz, trivial⟩ sr ?_
 rintro i ⟨i0, i1⟩
 simp only [allC]
 by_cases hlt : i < os.length
 · obtain ⟨x, hx⟩ : ∃ x, os[i.toNat]? = some x := ⟨_, List.getElem?_eq_getElem (by omega)⟩
   obtain ⟨b, off, hp, hat⟩ := so.addr (by omega)
   obtain ⟨b', off', hp', hat'⟩ := so'.addr (by omega)
   subst hp
   subst hp'
   repeat (first | refine yK ?_ | refine yP ?_ | refine sy_ov (ov_lens rfl) rfl rfl ?_ | refine yL 1 ?_ | refine yF ?_ | refine yT ?_)
   refine sy_draw 10 (by kernel_rfl) ?_
   repeat (first | refine dr_op (ov_p rfl) rfl rfl ?_ | refine dr_op (ov_ld 1 rfl rfl rfl) rfl rfl ?_ | refine dr_op (ov_fieldAddr rfl rfl rfl) rfl rfl ?_ | (refine dr_op (ov_indexAddr rfl rfl ?_ ?_) rfl rfl ?_; omega; omega))
   refine dr_op (ov_elem (f := pairV) hat hx rfl rfl (fun _ => rfl)) rfl rfl ?_
   repeat (first | refine dr_op (ov_p rfl) rfl rfl ?_ | refine dr_op (ov_ld 0 rfl rfl rfl) rfl rfl ?_ | refine dr_op (ov_fieldAddr rfl rfl rfl) rfl rfl ?_ | (refine dr_op (ov_indexAddr rfl rfl ?_ ?_) rfl rfl ?_; omega; omega))
   refine dr_op (ov_elem (f := pairV) hat' hx rfl rfl (fun _ => rfl)) rfl rfl ?_
   repeat (refine dr_end ?_)
   refine sy_ov (ov_nest (xs := pairV x) (ys := pairV x) rfl rfl rfl rfl) rfl rfl ?_
   rw [eqPr]
   repeat (first | refine yK ?_ | refine yP ?_ | (refine yR ?_ ?_ ?_; omega; omega) | refine yN ?_)
   refine sy_back (i + 1) ⟨by omega, by omega⟩ (by omega) ⟨zz, zz, zz, trivial⟩ sr
 · repeat (first | refine yK ?_ | refine yP ?_ | refine sy_ov (ov_lens rfl) rfl rfl ?_ | refine yL 1 ?_ | refine yF ?_ | refine yN ?_)
   refine sy_loop (α := Int) (fun i => [(2, ptr b2), (3, ptr b3), (6, .int .i64 i)]) (fun _ => [blk b3 45 (allC (wsV lv') (.slice po' os.length qo') (.slice tp' ty.length tc') sk' sa slo shi smo (wsV sns) (.slice spp sparts.length scp) sn2), blk b2 45 (allC (wsV lv) (.slice po os.length qo) (.slice tp ty.length tc) rk ra rlo rhi rmo (wsV rns) (.slice rpp rparts.length rcp) rn)]) (fun i => 0 ≤ i ∧ i ≤ ty.length) (fun i => (ty.length - i).toNat) 0 ⟨by omega, by omega⟩ ⟨zz, zz, zz, trivial⟩ sr ?_
   rintro i ⟨i0, i1⟩
   simp only [allC]
   by_cases hlt : i < ty.length
   · obtain ⟨x, hx⟩ : ∃ x, ty[i.toNat]? = some x := ⟨_, List.getElem?_eq_getElem (by omega)⟩
     obtain ⟨y, hy⟩ : ∃ y, ty'[i.toNat]? = some y := ⟨_, List.getElem?_eq_getElem (by omega)⟩
     have hxy : plN x = plN y := by
      have e1 : (ty.map plN)[i.toNat]? = some (plN x) := by rw [List.getElem?_map, hx]; rfl
      have e2 : (ty'.map plN)[i.toNat]? = some (plN y) := by rw [List.getElem?_map, hy]; rfl
      rw [hty, e2] at e1
      exact (Option.some.inj e1).symm
     have jx : St (fun _ => False) w (fun w => TypJ w x.ty) := fun w' hk => (sn w' hk).get hx
     have jy : St (fun _ => False) w (fun w => TypJ w y.ty) := fun w' hk => (sn' w' hk).get hy
     obtain ⟨xn, xt⟩ := x
     obtain ⟨yn, yt⟩ := y
     simp only [plN, Prod.mk.injEq] at hxy
     obtain ⟨rfl, hxt⟩ := hxy
     obtain ⟨b, off, hp, hat⟩ := st.addr (by omega)
     obtain ⟨b', off', hp', hat'⟩ := st'.addr (by omega)
     subst hp
     subst hp'
     repeat (first | refine yK ?_ | refine yP ?_ | refine sy_ov (ov_lens rfl) rfl rfl ?_ | refine yL 1 ?_ | refine yF ?_ | refine yT ?_)
     refine sy_draw 26 (by kernel_rfl) ?_
     repeat (first | refine dr_op (ov_p rfl) rfl rfl ?_ | refine dr_op (ov_ld 1 rfl rfl rfl) rfl rfl ?_ | refine dr_op (ov_fieldAddr rfl rfl rfl) rfl rfl ?_ | (refine dr_op (ov_indexAddr rfl rfl ?_ ?_) rfl rfl ?_; omega; omega))
     refine dr_op (ov_elemF (f := nmdV) (j := 0) (k := 11) (vs := wordV xn) hat hx rfl rfl nmdV_len rfl app_get1) rfl rfl ?_
     repeat (first | refine dr_op (ov_p rfl) rfl rfl ?_ | refine dr_op (ov_ld 0 rfl rfl rfl) rfl rfl ?_ | refine dr_op (ov_fieldAddr rfl rfl rfl) rfl rfl ?_ | (refine dr_op (ov_indexAddr rfl rfl ?_ ?_) rfl rfl ?_; omega; omega))
     refine dr_op (ov_elemF (f := nmdV) (j := 0) (k := 11) (vs := wordV xn) hat' hy rfl rfl nmdV_len rfl app_get1) rfl rfl ?_
     skip
     refine dr_op (ov_nest (xs := wordV xn) (ys := wordV xn) rfl rfl rfl rfl) rfl rfl ?_
     rw [eqW]
     repeat (first | refine dr_op (ov_p rfl) rfl rfl ?_ | (refine dr_yes rfl rfl rfl rfl ?_ (ov_p rfl) rfl ?_; (first | with_reducible rfl | assumption | omega | (simp <;> first | omega | assumption))) | (refine dr_yes rfl rfl rfl rfl ?_ (ov_ld 1 rfl rfl rfl) rfl ?_; (first | with_reducible rfl | assumption | omega | (simp <;> first | omega | assumption))) | (refine dr_yes rfl rfl rfl rfl ?_ (ov_fieldAddr rfl rfl rfl) rfl ?_; (first | with_reducible rfl | assumption | omega | (simp <;> first | omega | assumption))) | (refine dr_yes rfl rfl rfl rfl ?_ (ov_indexAddr rfl rfl ?_ ?_) rfl ?_; (focus (first | with_reducible rfl | assumption | omega | (simp <;> first | omega | assumption))); omega; omega))
     refine dr_yes rfl rfl rfl rfl ?_ (ov_elemF (f := nmdV) (j := 2) (k := 11) (vs := typV xt) hat hx rfl rfl nmdV_len (typV_len _) (app_get2 rfl)) rfl ?_
     focus (first | with_reducible rfl | (simp <;> first | omega | assumption))
     repeat (first | (refine dr_yes rfl rfl rfl rfl ?_ (ov_p rfl) rfl ?_; (first | with_reducible rfl | assumption | omega | (simp <;> first | omega | assumption))) | (refine dr_yes rfl rfl rfl rfl ?_ (ov_ld 0 rfl rfl rfl) rfl ?_; (first | with_reducible rfl | assumption | omega | (simp <;> first | omega | assumption))) | (refine dr_yes rfl rfl rfl rfl ?_ (ov_fieldAddr rfl rfl rfl) rfl ?_; (first | with_reducible rfl | assumption | omega | (simp <;> first | omega | assumption))) | (refine dr_yes rfl rfl rfl rfl ?_ (ov_indexAddr rfl rfl ?_ ?_) rfl ?_; (focus (first | with_reducible rfl | assumption | omega | (simp <;> first | omega | assumption))); omega; omega))
     refine dr_yes rfl rfl rfl rfl ?_ (ov_elemF (f := nmdV) (j := 2) (k := 11) (vs := typV yt) hat' hy rfl rfl nmdV_len (typV_len _) (app_get2 rfl)) rfl ?_
     focus (first | with_reducible rfl | (simp <;> first | omega | assumption))
     repeat (refine dr_end ?_)
     repeat refine yG ?_
     refine sy_ov (ov_call rfl (fun w hw => hrec xt yt w (jx.at hw) (jy.at hw) hxt)) rfl rfl ?_
     repeat (first | refine yK ?_ | refine yP ?_ | refine yG ?_ | (refine yR ?_ ?_ ?_; omega; omega) | refine yE ?_ | refine yN ?_)
     refine sy_back (i + 1) ⟨by omega, by omega⟩ (by omega) ⟨zz, zz, zz, trivial⟩ sr
   · repeat (first | refine yK ?_ | refine yP ?_ | refine sy_ov (ov_lens rfl) rfl rfl ?_ | refine yL 1 ?_ | refine yF ?_ | refine yN ?_ | refine sy_rt ?_)
     exact ret1 rfl rfl rfl
end Go.Proofs.YtldjakeigjngoaaGreat