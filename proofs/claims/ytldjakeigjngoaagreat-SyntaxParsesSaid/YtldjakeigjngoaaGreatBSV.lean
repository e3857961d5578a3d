/- BSV: texts of this proof, joined by program: RSyn6, RSyn7, RSyn8, RSyn9, RSyn10, RSyn11. -/
import Derived.Test.YtldjakeigjngoaaGreatBSR
import Derived.Test.YtldjakeigjngoaaGreatBSU
set_option linter.unusedVariables false
set_option linter.unusedSimpArgs false
namespace Go.Proofs.YtldjakeigjngoaaGreat
open Go.RowKit Bf
def TyN (g : Nat) (r : TypP × PS) (u : Value) (es : List En) : Prop := ∃ z : TypA, u = .tuple #[.agg ⟨typV z⟩, .agg ⟨ptW g r.2⟩] ∧ plT z = r.1 ∧ es = [typE z]
def KdN (n : Nat) : Prop := ∀ (g : Nat) (x : PS) (w : World), x.Ok → x.l.length ≤ 65537 → TkAt g x w → Calls Tryz.prog 29 #[.agg ⟨ptW g x⟩, .int .i64 (24 - n)] w (PostN w (TyN g (qknd n x)))
def PrN (g : Nat) (r : PrtP × PS) (u : Value) (es : List En) : Prop := ∃ z : PrtA, u = .tuple #[.agg ⟨prtV z⟩, .agg ⟨ptW g r.2⟩] ∧ plP z = r.1 ∧ es = [prtE z]
theorem ret_whole {vs ph : List Value} {n : Nat} (h : ph.length = vs.length) (hn : vs.length = n) : (upd ph 0 vs).take n = vs := by rw [upd0 _ _ h, ← hn, List.take_length]
section
variable (g : Nat) (x : PS) (w : World)
set_option maxRecDepth 20000 in
set_option maxHeartbeats 4000000 in
theorem rq_field (n : Nat) (hk : KdN n) (hx : x.Ok) (hl : x.l.length ≤ 65537) (hT : TkAt g x w) : Calls Tryz.prog 104 #[.agg ⟨ptW g x⟩, .bool false, .int .i64 (24 - n)] w (PostN w (PrN g (qprt (qknd n) false x))) := by
 have hst : St (fun _ => False) w (fun w => TkAt g x w) := St.start (TkAt.bl g x) hT
 have a1 := QA.any hx (by decide : (1 : Int) ≠ 0)
 have a2 := a1.trans (QA.must a1.ok [58])
 have a3 := a2.trans (QA.knd n _ a2.ok)
 have l2 := a2.len
 have l3 := a3.len
 unfold qprt
 rw [if_pos rfl]
 simp only
 refine sy_enter rfl rfl ?_
 simp only [initFr]
 repeat (first | refine yK ?_ | refine yL 2 ?_ | (refine yX ?_; intro _) | (refine yA ?_; intro _))
 refine sy_ov (ov_call rfl (fun w hw => rq_name g x w hx (hst.at hw))) rfl rfl ?_
 repeat (first | refine yK ?_ | refine yP ?_ | refine yL 0 ?_ | refine yL 4 ?_ | refine yS 0 ?_ | refine yS 3 ?_ | refine yB ?_ | (refine yA ?_; intro _) | refine yT ?_)
 rename_i b3 b6 b7 b8 b9
 refine sy_weaken (fun _ _ h => h) (sk (sd sr)) ?_
 refine sy_cells 0 (prtC (qW x) false ws0 0 0 0 0 ws0 (typV (typ0 0))) rfl (upd0 _ _ rfl) ?_
 refine sy_cells 3 (ptW g (x.any 1)) rfl rfl ?_
 simp only [prtC, typV, typ0, List.set_cons_zero, List.set_cons_succ, cX]
 refine sy_frame [(2, .int .i64 (24 - n)), (3, ptr b3), (6, ptr b6), (7, ptr b7), (9, ptr b9), (21, .agg ⟨ptW g (x.any 1)⟩)] ⟨zz, zz, zz, zz, zz, zz, trivial⟩ ?_
 refine sy_ov (ov_call rfl (fun w hw => rq_mark g _ w a1.ok ((hst.at hw).on a1.on) [58])) rfl rfl ?_
 repeat refine yP ?_
 refine sy_callN rfl rfl (fun w hw => hk g _ w a2.ok (by omega) ((hst.at hw).on a2.on)) ?_
 rintro _ _ ⟨z, rfl, hz, rfl⟩
 obtain ⟨zk, za, zlo, zhi, zmo, zns, zpp, zcp, zparts, znm⟩ := z
 simp only [cX]
 repeat (first | refine yK ?_ | refine yP ?_ | refine yL 1 ?_ | refine yL 4 ?_ | refine yS 1 ?_ | refine yS 4 ?_ | refine yF ?_)
 refine sy_frame [(6, ptr b6), (7, ptr b7), (28, .agg ⟨ptW g (qknd n ((x.any 1).must [58])).2⟩), (29, .agg ⟨prtC (qW x) false ws0 0 0 0 0 ws0 (typV (.mk zk za zlo zhi zmo zns zpp zcp zparts znm))⟩)] ⟨zz, zz, zz, zz, trivial⟩ ?_
 refine sy_callN rfl rfl (fun w hw => rq_marks g _ w (qW x) false zk za zlo zhi zmo zns zpp zcp zparts znm a3.ok (by omega) ((hst.at hw).on a3.on)) ?_
 rintro _ _ ⟨lab, wide, ck, cn, ca, cl, rfl, hm, rfl⟩
 simp only [cX]
 refine sy_prtMk (qW x) false wide ck cn ca ?_
 refine sy_ws0 ?_
 refine sy_ws0 ?_
 repeat refine yP ?_
 refine yS 5 ?_
 refine sy_cells 5 (prtC (qW x) false lab wide ck cn ca cl (typV (.mk zk za zlo zhi zmo zns zpp zcp zparts znm))) rfl (upd0 _ _ rfl) ?_
 refine sy_order [2, 4, 5, 0, 1, 3, 6] rfl rfl ?_
 simp only [oX]
 repeat (first | refine yK ?_ | refine yS 1 ?_ | refine sy_rt ?_)
 exact ret_ccw 2 1 rfl rfl rfl rfl rfl rfl rfl rfl rfl fun w' hw' => ⟨_, _, ⟨.mk (qW x) false lab wide ck cn ca cl (.mk zk za zlo zhi zmo zns zpp zcp zparts znm), rfl, prt_pl hm hz, rfl⟩, rfl, hw'.weaken (sk nl)⟩
set_option maxRecDepth 20000 in
set_option maxHeartbeats 4000000 in
theorem rq_tag (n : Nat) (hk : KdN n) (hx : x.Ok) (hl : x.l.length ≤ 65537) (hT : TkAt g x w) : Calls Tryz.prog 104 #[.agg ⟨ptW g x⟩, .bool true, .int .i64 (24 - n)] w (PostN w (PrN g (qprt (qknd n) true x))) := by
 have hst : St (fun _ => False) w (fun w => TkAt g x w) := St.start (TkAt.bl g x) hT
 have a1 := QA.any hx (by decide : (1 : Int) ≠ 0)
 unfold qprt
 rw [if_neg (show ¬ (true = false) by decide)]
 by_cases h4 : (x.any 1).mayB [40] = true
 · have a2 := a1.trans (QA.adv a1.ok h4)
   have a3 := a2.trans (QA.knd n _ a2.ok)
   have a4 := a3.trans (QA.must a3.ok [41])
   have l2 := a2.len
   have l4 := a4.len
   rw [if_pos h4]
   simp only
   refine sy_enter rfl rfl ?_
   simp only [initFr]
   repeat (first | refine yK ?_ | refine yL 2 ?_ | (refine yX ?_; intro _) | (refine yA ?_; intro _))
   refine sy_ov (ov_call rfl (fun w hw => rq_name g x w hx (hst.at hw))) rfl rfl ?_
   repeat (first | refine yK ?_ | refine yP ?_ | refine yL 0 ?_ | refine yL 4 ?_ | refine yS 0 ?_ | refine yS 3 ?_ | refine yB ?_ | (refine yA ?_; intro _) | refine yN ?_)
   rename_i b3 b6 b7 b8 b9
   refine sy_weaken (fun _ _ h => h) (sk (sd sr)) ?_
   refine sy_cells 0 (prtC (qW x) false ws0 0 0 0 0 ws0 (typV (typ0 0))) rfl (upd0 _ _ rfl) ?_
   refine sy_cells 3 (ptW g (x.any 1)) rfl rfl ?_
   simp only [prtC, typV, typ0, List.set_cons_zero, List.set_cons_succ, cX]
   refine sy_frame [(2, .int .i64 (24 - n)), (3, ptr b3), (6, ptr b6), (7, ptr b7), (9, ptr b9), (34, .agg ⟨ptW g (x.any 1)⟩)] ⟨zz, zz, zz, zz, zz, zz, trivial⟩ ?_
   refine sy_ov (ov_call rfl (fun w hw => rq_may g _ w a1.ok ((hst.at hw).on a1.on) [40])) rfl rfl ?_
   rw [h4, show (x.any 1).may [40] = (x.any 1).adv from if_pos h4]
   repeat (first | refine yK ?_ | refine yP ?_ | refine yL 3 ?_ | refine yS 3 ?_ | refine yN ?_)
   refine sy_callN rfl rfl (fun w hw => hk g _ w a2.ok (by omega) ((hst.at hw).on a2.on)) ?_
   rintro _ _ ⟨z, rfl, hz, rfl⟩
   obtain ⟨zk, za, zlo, zhi, zmo, zns, zpp, zcp, zparts, znm⟩ := z
   simp only [cX]
   repeat (first | refine yK ?_ | refine yP ?_ | refine yS 1 ?_ | refine yS 4 ?_ | refine yF ?_)
   refine sy_frame [(3, ptr b3), (6, ptr b6), (7, ptr b7), (9, ptr b9)] ⟨zz, zz, zz, zz, trivial⟩ ?_
   refine sy_cells 1 (prtC (qW x) false ws0 0 0 0 0 ws0 (typV (.mk zk za zlo zhi zmo zns zpp zcp zparts znm))) rfl rfl ?_
   refine sy_cells 4 (ptW g (qknd n (x.any 1).adv).2) rfl rfl ?_
   simp only [prtC, typV, List.set_cons_zero, List.set_cons_succ, cX]
   refine sy_drawE _ 6 [(0, false), (1, false), (2, false), (3, true), (4, false), (5, false)] (by kernel_rfl) rfl ((sd (sk (sd (sd (sk nl)))))) ?_
   repeat (refine dre_rd (fun _ _ => ov_ld 1 rfl rfl rfl) rfl ?_)
   refine dre_rd (fun _ hC => ov_call rfl (fun w hw => rq_mark g _ w a3.ok (((hst.le2 hC).at hw).on a3.on) [41])) rfl ?_
   repeat (refine dre_rd (fun _ _ => ov_ld 0 rfl rfl rfl) rfl ?_)
   refine dre_ef rfl ?_
   refine sy_callN rfl rfl (fun w hw => rq_marks g _ w (qW x) false zk za zlo zhi zmo zns zpp zcp zparts znm a4.ok (by omega) ((hst.at hw).on a4.on)) ?_
   rintro _ _ ⟨lab, wide, ck, cn, ca, cl, rfl, hm, rfl⟩
   simp only [cX]
   refine sy_prtMk (qW x) false wide ck cn ca ?_
   refine dre_ek (sd (sk (sd (sd (sk nl))))) ?_
   repeat (first | refine dre_rd (fun _ _ => ov_p rfl) rfl ?_ | refine dre_end ?_)
   refine sy_ws0 ?_
   refine sy_ws0 ?_
   skip
   refine yS 5 ?_
   refine sy_cells 5 (prtC (qW x) false lab wide ck cn ca cl (typV (.mk zk za zlo zhi zmo zns zpp zcp zparts znm))) rfl (upd0 _ _ rfl) ?_
   refine sy_order [2, 4, 5, 0, 1, 3, 6] rfl rfl ?_
   simp only [oX]
   repeat (first | refine yK ?_ | refine yS 1 ?_ | refine sy_rt ?_)
   exact ret_ccw 2 1 rfl rfl rfl rfl rfl rfl rfl rfl rfl fun w' hw' => ⟨_, _, ⟨.mk (qW x) false lab wide ck cn ca cl (.mk zk za zlo zhi zmo zns zpp zcp zparts znm), rfl, prt_pl hm hz, rfl⟩, rfl, hw'.weaken (sk nl)⟩
 · rw [if_neg h4]
   have h4 : (x.any 1).mayB [40] = false := by simpa using h4
   refine sy_enter rfl rfl ?_
   simp only [initFr]
   repeat (first | refine yK ?_ | refine yL 2 ?_ | (refine yX ?_; intro _) | (refine yA ?_; intro _))
   refine sy_ov (ov_call rfl (fun w hw => rq_name g x w hx (hst.at hw))) rfl rfl ?_
   repeat (first | refine yK ?_ | refine yP ?_ | refine yL 0 ?_ | refine yL 4 ?_ | refine yS 0 ?_ | refine yS 3 ?_ | refine yB ?_ | (refine yA ?_; intro _) | refine yN ?_)
   rename_i b3 b6 b7 b8 b9
   refine sy_weaken (fun _ _ h => h) (sk (sd sr)) ?_
   refine sy_cells 0 (prtC (qW x) false ws0 0 0 0 0 ws0 (typV (typ0 0))) rfl (upd0 _ _ rfl) ?_
   refine sy_cells 3 (ptW g (x.any 1)) rfl rfl ?_
   simp only [prtC, typV, typ0, List.set_cons_zero, List.set_cons_succ, cX]
   refine sy_frame [(2, .int .i64 (24 - n)), (3, ptr b3), (6, ptr b6), (7, ptr b7), (9, ptr b9), (34, .agg ⟨ptW g (x.any 1)⟩)] ⟨zz, zz, zz, zz, zz, zz, trivial⟩ ?_
   refine sy_ov (ov_call rfl (fun w hw => rq_may g _ w a1.ok ((hst.at hw).on a1.on) [40])) rfl rfl ?_
   rw [h4, show (x.any 1).may [40] = x.any 1 from if_neg (by rw [h4]; decide)]
   refine sy_typ0 0 ?_
   refine sy_ws0 ?_
   refine sy_ws0 ?_
   refine sy_prtMk (qW x) true 0 0 0 0 ?_
   repeat (first | refine yK ?_ | refine yP ?_ | refine yS 1 ?_ | refine yS 4 ?_ | refine yF ?_ | refine yT ?_)
   refine sy_cells 1 (prtC (qW x) true ws0 0 0 0 0 ws0 (typV (typ0 0))) rfl rfl ?_
   refine sy_cells 4 (ptW g (x.any 1)) rfl rfl ?_
   simp only [prtC, typV, typ0, List.set_cons_zero, List.set_cons_succ, cX]
   refine sy_drawE _ 3 [(0, false), (1, false), (2, true)] (by kernel_rfl) rfl ((sd (sk (sd (sd (sk nl)))))) ?_
   repeat (first | refine dre_rd (fun _ _ => ov_ld 0 rfl rfl rfl) rfl ?_ | refine dre_rd (fun _ _ => ov_ld 1 rfl rfl rfl) rfl ?_ | (refine dre_ef rfl ?_; refine yS 3 ?_; refine dre_ek (by repeat first | exact sr | apply sk | apply sd) ?_) | refine dre_end ?_)
   refine sy_cells 3 (prtC (qW x) true ws0 0 0 0 0 ws0 (typV (typ0 0))) rfl (upd0 _ _ rfl) ?_
   repeat (first | refine yK ?_ | refine yS 2 ?_ | refine sy_rt ?_)
   exact ret_ccw 3 2 rfl rfl rfl rfl rfl rfl rfl rfl rfl fun w' hw' => ⟨_, _, ⟨.mk (qW x) true ws0 0 0 0 0 ws0 (typ0 0), rfl, by simp only [plP, typ0, plT, plPs]; rfl, rfl⟩, rfl, hw'.weaken (sk nl)⟩
end
theorem must_good {x : PS} {t : List UInt8} (h : (x.must t).e = 0) : x.must t = x.adv ∧ x.e = 0 := by
 unfold PS.must at h ⊢
 by_cases hb : x.mayB t = true
 · rw [if_pos hb]; exact ⟨rfl, (PS.mayB_hd hb).1⟩
 · rw [if_neg hb] at h
   exfalso
   by_cases he : x.e = 0
   · exact (odd_bad he).1 h
   · rw [odd_same he] at h; exact he h
structure QsI {α : Type} (x0 : PS) (one : PS → α × PS) (e : List UInt8) (R : List α × PS) (x : PS) (ys : List α) : Prop where
 qa : QA x0 x
 len : x.e = 0 → ys.length + x.l.length ≤ x0.l.length
 go : ∃ n, (x.e = 0 → x.l.length < n) ∧ (x.e ≠ 0 → 1 ≤ n) ∧ qlstGo one e n x ys = R
def qsM (x : PS) : Nat := if x.e = 0 then x.l.length + 1 else 0
section
variable {α : Type} {x0 : PS} {one : PS → α × PS} {e : List UInt8} {R : List α × PS} {x : PS} {ys : List α}
theorem QsI.bad (h : QsI x0 one e R x ys) (he : x.e ≠ 0) : R = ([], x) := by
 obtain ⟨n, _, hn, hr⟩ := h.go
 obtain ⟨n, rfl⟩ : ∃ k, n = k + 1 := ⟨n - 1, by have := hn he; omega⟩
 rw [← hr]; unfold qlstGo; rw [if_pos he]
theorem QsI.over (h : QsI x0 one e R x ys) (he : x.e = 0) (hb : (one x).2.mayB e = true) : R = (ys ++ [(one x).1], (one x).2.adv) := by
 obtain ⟨n, hn, _, hr⟩ := h.go
 obtain ⟨n, rfl⟩ : ∃ k, n = k + 1 := ⟨n - 1, by have := hn he; omega⟩
 rw [← hr]; unfold qlstGo; rw [if_neg (show ¬ x.e ≠ 0 from fun h => h he), if_pos hb]
theorem QsI.next (h : QsI x0 one e R x ys) (he : x.e = 0) (ha : QA x (one x).2) (hb : (one x).2.mayB e = false) : QsI x0 one e R ((one x).2.must [44]) (ys ++ [(one x).1]) ∧ qsM ((one x).2.must [44]) < qsM x := by
 obtain ⟨n, hn, _, hr⟩ := h.go
 have a2 := ha.trans (QA.must ha.ok [44])
 have hal := ha.len
 have hp := ha.ok.ne
 have hl := h.len he
 have hn' := hn he
 obtain ⟨n, rfl⟩ : ∃ k, n = k + 1 := ⟨n - 1, by omega⟩
 have hr' : qlstGo one e n ((one x).2.must [44]) (ys ++ [(one x).1]) = R := by
  rw [← hr]; conv => rhs; unfold qlstGo
  rw [if_neg (show ¬ x.e ≠ 0 from fun h => h he), if_neg (by rw [hb]; decide)]
 have hg : ((one x).2.must [44]).e = 0 → ((one x).2.must [44]).l.length = (one x).2.l.length - 1 := fun h => by
  rw [(must_good h).1]; simp [PS.adv]
 refine ⟨⟨h.qa.trans a2, fun h0 => ?_, n, fun h0 => ?_, fun _ => ?_, hr'⟩, ?_⟩
 · have := hg h0
   simp only [lX]; omega
 · have := hg h0; omega
 · have := h.qa.ok.ne; omega
 · unfold qsM
   rw [if_pos he]
   split
   · rename_i h0; have := hg h0; omega
   · omega
theorem QsI.start {x : PS} (hx : x.Ok) (one : PS → α × PS) (e : List UInt8) : QsI x one e (qlstGo one e (x.l.length + 1) x []) x [] :=
 ⟨.refl hx, fun _ => by simp, x.l.length + 1, fun _ => by omega, fun _ => by omega, rfl⟩
end
def qnH (g b2 b5 : Nat) (x : PS) (ys : List WordT) (p : Option Addr) (q : Nat) : List En :=
 [blk b2 74 (ptW g x), wsRow ys p q, blk b5 74 zP]
section
variable (g : Nat) (x : PS) (w : World)
set_option maxRecDepth 20000 in
set_option maxHeartbeats 4000000 in
theorem rq_names (e : List UInt8) (hx : x.Ok) (hl : x.l.length ≤ 65537) (hT : TkAt g x w) : Calls Tryz.prog 64 #[.agg ⟨ptW g x⟩, S e] w (PostN w (LabN g (qnams e x))) := by
 have hst : St (fun _ => False) w (fun w => TkAt g x w) := St.start (TkAt.bl g x) hT
 have hs := QsI.start hx qnam1 e
 obtain ⟨R, hR⟩ : ∃ R, qlstGo qnam1 e (x.l.length + 1) x [] = R := ⟨_, rfl⟩
 rw [hR] at hs
 rw [show qnams e x = R from hR]
 refine sy_enter rfl rfl ?_
 simp only [initFr]
 repeat (first | refine yK ?_ | refine yP ?_ | (refine yX ?_; intro _) | (refine yA ?_; intro _))
 rename_i b2 b5
 refine sy_grow 36 2 ?_
 refine sy_order [2, 0, 1] rfl rfl ?_
 simp only [oX]
 refine sy_loop (α := QlSt) (fun s => [(1, S e), (2, ptr b2), (5, ptr b5), (6, .slice s.p s.ys.length s.q)]) (fun s => qnH g b2 b5 s.x s.ys s.p s.q) (fun s => QsI x qnam1 e R s.x s.ys) (fun s => qsM s.x) ⟨x, [], none, 0⟩ hs ⟨zz, zz, zz, zz, trivial⟩ (by simp only [qnH, wsRow]; exact sr) ?_
 rintro ⟨x', ys, pk, ck⟩ hI
 simp only at hI
 simp only [qnH, wsRow]
 have qa := hI.qa
 have hx' := qa.ok
 have a1 := QA.any hx' (by decide : (1 : Int) ≠ 0)
 by_cases he : x'.e = 0
 · have hlen := hI.len he
   have hfin := rq_fine g x'
   have hpos := hx'.ne
   have hmay := fun w h => rq_may g (x'.any 1) w a1.ok h e
   by_cases hb : (x'.any 1).mayB e = true
   · have hr' := hI.over he hb
     subst hr'
     rw [hb, show (x'.any 1).may e = (x'.any 1).adv from if_pos hb] at hmay
     repeat (first | refine yK ?_ | refine yL 0 ?_)
     refine sy_ov (ov_call rfl (fun w _ => rq_fine g x' w true (by simp [he]))) rfl rfl ?_
     repeat (first | refine yK ?_ | refine yL 0 ?_ | refine yT ?_)
     refine sy_ov (ov_call rfl (fun w hw => rq_name g x' w hx' ((hst.at hw).on qa.on))) rfl rfl ?_
     repeat (first | refine yK ?_ | refine yP ?_ | refine yL 1 ?_ | refine yS 0 ?_ | refine yS 1 ?_ | (refine yA ?_; intro _))
     refine sy_buildSlice rfl rfl rfl rfl rfl rfl rfl rfl ?_
     intro g2
     refine sy_append 4 0 rfl rfl rfl rfl rfl rfl rfl rfl rfl rfl rfl (by omega) (by show (_ + 1) * 24 ≤ _; omega) ?_
     intro p' q'
     refine sy_weaken (fun _ _ h => h) (sd sr) ?_
     repeat (first | refine yK ?_ | refine yP ?_ | refine yL 0 ?_)
     refine sy_ov (ov_call rfl (fun w hw => hmay w ((hst.at hw).on (qa.on.trans a1.on)))) rfl rfl ?_
     repeat (first | refine yK ?_ | refine yP ?_ | refine yS 0 ?_ | (refine yA ?_; intro _) | refine yT ?_)
     refine sy_vecIs (n' := (ys ++ [qW x']).length) (cs' := (ys ++ [qW x']).flatMap wordV) 4 rfl (by simp) (by rw [words_snoc]; rfl) ?_
     refine sy_order [4, 0, 1, 2, 3, 5] rfl rfl ?_
     simp only [oX]
     refine sy_wsMk ?_
     refine sy_order [0, 5, 1, 2, 3, 4] rfl rfl ?_
     simp only [oX]
     refine sy_draw 3 (by kernel_rfl) ?_
     repeat (first | refine dr_op (ov_p rfl) rfl rfl ?_ | refine dr_op (ov_ld 2 rfl rfl rfl) rfl rfl ?_ | refine dr_end ?_)
     repeat (first | refine yK ?_ | refine yS 1 ?_ | refine sy_rt ?_)
     exact ret2cw 1 rfl rfl rfl rfl rfl rfl fun w' hw' => ⟨_, _, ⟨⟨some p', q', ys ++ [qW x']⟩, by simp only [wsV, lX]; rfl, rfl, rfl⟩, rfl, hw'.weaken (sk nl)⟩
   · have hb : (x'.any 1).mayB e = false := by simpa using hb
     obtain ⟨hn, hm⟩ := hI.next he a1 hb
     rw [hb, show (x'.any 1).may e = x'.any 1 from if_neg (by rw [hb]; decide)] at hmay
     repeat (first | refine yK ?_ | refine yL 0 ?_)
     refine sy_ov (ov_call rfl (fun w _ => rq_fine g x' w true (by simp [he]))) rfl rfl ?_
     repeat (first | refine yK ?_ | refine yL 0 ?_ | refine yT ?_)
     refine sy_ov (ov_call rfl (fun w hw => rq_name g x' w hx' ((hst.at hw).on qa.on))) rfl rfl ?_
     repeat (first | refine yK ?_ | refine yP ?_ | refine yL 1 ?_ | refine yS 0 ?_ | refine yS 1 ?_ | (refine yA ?_; intro _))
     refine sy_buildSlice rfl rfl rfl rfl rfl rfl rfl rfl ?_
     intro g2
     refine sy_append 4 0 rfl rfl rfl rfl rfl rfl rfl rfl rfl rfl rfl (by omega) (by show (_ + 1) * 24 ≤ _; omega) ?_
     intro p' q'
     refine sy_weaken (fun _ _ h => h) (sd sr) ?_
     repeat (first | refine yK ?_ | refine yP ?_ | refine yL 0 ?_)
     refine sy_ov (ov_call rfl (fun w hw => hmay w ((hst.at hw).on (qa.on.trans a1.on)))) rfl rfl ?_
     repeat (first | refine yK ?_ | refine yP ?_ | refine yL 1 ?_ | refine yS 0 ?_ | (refine yA ?_; intro _) | refine yN ?_)
     refine sy_ov (ov_call rfl (fun w hw => rq_mark g _ w a1.ok ((hst.at hw).on (qa.on.trans a1.on)) [44])) rfl rfl ?_
     repeat (first | refine yK ?_ | refine yS 3 ?_)
     refine sy_back ⟨(x'.any 1).must [44], ys ++ [qW x'], some p', q'⟩ hn hm ⟨zz, zz, zz, ⟨_, rfl, by simp only [lX]⟩, trivial⟩ (by simp only [qnH, wsRow, words_snoc, lX]; exact sd (sd (sd (sk (sk (sk nl))))))
 · have hr' := hI.bad he
   subst hr'
   repeat (first | refine yK ?_ | refine yL 0 ?_)
   refine sy_ov (ov_call rfl (fun w _ => rq_fine g x' w false (by simp [he]))) rfl rfl ?_
   refine sy_ws0 ?_
   repeat (first | refine yK ?_ | refine yN ?_)
   refine sy_draw 2 (by kernel_rfl) ?_
   repeat (first | refine dr_op (ov_p rfl) rfl rfl ?_ | refine dr_op (ov_ld 1 rfl rfl rfl) rfl rfl ?_ | refine dr_end ?_)
   repeat (first | refine yK ?_ | refine yS 3 ?_ | refine sy_rt ?_)
   exact ret2cw 3 rfl rfl rfl rfl rfl rfl fun w' hw' => ⟨_, _, ⟨ws0, rfl, rfl, rfl⟩, rfl, hw'.weaken (sk nl)⟩
end
theorem load_whole {vs ph : List Value} {n : Nat} (h : ph.length = vs.length) (hn : vs.length = n) : ((upd ph 0 vs).drop 0).take n = vs := by rw [List.drop_zero]; exact ret_whole h hn
def PsN (g : Nat) (r : List PrtP × PS) (u : Value) (es : List En) : Prop := ∃ z : PtsA, u = .tuple #[.slice z.p z.zs.length z.c, .agg ⟨ptW g r.2⟩] ∧ plPs z.zs = r.1 ∧ es = [prtsRow z, prtsE z.zs]
def qpH (g b3 b7 : Nat) (x : PS) (z : PtsA) : List En :=
 [blk b3 74 (ptW g x), prtsRow z, prtsE z.zs, blk b7 74 zP]
structure QpSt where
 x : PS
 z : PtsA
theorem prts_snoc (zs : List PrtA) (z : PrtA) : (zs ++ [z]).flatMap prtV = zs.flatMap prtV ++ prtV z := by simp
theorem rq_part (n : Nat) (hk : KdN n) (tag : Bool) (g : Nat) (x : PS) (w : World) (hx : x.Ok) (hl : x.l.length ≤ 65537) (hT : TkAt g x w) : Calls Tryz.prog 104 #[.agg ⟨ptW g x⟩, .bool tag, .int .i64 (24 - n)] w (PostN w (PrN g (qprt (qknd n) tag x))) := by
 cases tag with
 | false => exact rq_field g x w n hk hx hl hT
 | true => exact rq_tag g x w n hk hx hl hT
section
variable (g : Nat) (x : PS) (w : World)
set_option maxRecDepth 20000 in
set_option maxHeartbeats 8000000 in
theorem rq_parts (n : Nat) (hk : KdN n) (tag : Bool) (hx : x.Ok) (hl : x.l.length ≤ 65537) (hT : TkAt g x w) : Calls Tryz.prog 65 #[.agg ⟨ptW g x⟩, .bool tag, .int .i64 (24 - n)] w (PostN w (PsN g (qprts (qknd n) tag x))) := by
 have hst : St (fun _ => False) w (fun w => TkAt g x w) := St.start (TkAt.bl g x) hT
 have q1 := QA.must hx [123]
 have q1l := q1.len
 unfold qprts qprtsB
 have hmay0 := fun w h => rq_may g (x.must [123]) w q1.ok h [125]
 by_cases h0 : (x.must [123]).mayB [125] = true
 · rw [h0, show (x.must [123]).may [125] = (x.must [123]).adv from if_pos h0] at hmay0
   cases tag with
   | false =>
    rw [if_pos ⟨h0, rfl⟩]
    refine sy_enter rfl rfl ?_
    simp only [initFr]
    repeat (first | refine yK ?_ | refine yP ?_ | refine yL 1 ?_ | (refine yX ?_; intro _) | (refine yA ?_; intro _))
    refine sy_ov (ov_call rfl (fun w hw => rq_mark g x w hx (hst.at hw) [123])) rfl rfl ?_
    repeat (first | refine yK ?_ | refine yL 1 ?_ | refine yS 1 ?_)
    refine sy_ov (ov_call rfl (fun w hw => hmay0 w ((hst.at hw).on q1.on))) rfl rfl ?_
    repeat (first | refine yK ?_ | refine yP ?_ | refine yG ?_ | refine yS 0 ?_ | refine yM ?_ | (refine yA ?_; intro _) | refine yT ?_)
    refine sy_prts0 ?_
    refine sy_grow 82 18 ?_
    refine sy_order [2, 3, 4, 0, 1] rfl rfl ?_
    simp only [oX]
    refine sy_draw 2 (by kernel_rfl) ?_
    repeat (first | refine dr_op (ov_p rfl) rfl rfl ?_ | refine dr_op (ov_ld 0 rfl rfl rfl) rfl rfl ?_ | refine dr_end ?_)
    repeat (first | refine yK ?_ | refine yS 1 ?_ | refine sy_rt ?_)
    exact ret2cw 1 rfl rfl rfl rfl rfl rfl fun w' hw' => ⟨_, _, ⟨⟨[], none, 0⟩, rfl, rfl, rfl⟩, rfl, hw'.weaken (sd (sd (sd sr)))⟩
   | true =>
    rw [if_neg (show ¬ ((x.must [123]).mayB [125] = true ∧ true = false) by simp)]
    have hs := QsI.start q1.ok (qprt (qknd n) true) [125]
    obtain ⟨R, hR⟩ : ∃ R, qlstGo (qprt (qknd n) true) [125] ((x.must [123]).l.length + 1) (x.must [123]) [] = R := ⟨_, rfl⟩
    rw [hR] at hs ⊢
    refine sy_enter rfl rfl ?_
    simp only [initFr]
    repeat (first | refine yK ?_ | refine yP ?_ | refine yL 1 ?_ | (refine yX ?_; intro _) | (refine yA ?_; intro _))
    refine sy_ov (ov_call rfl (fun w hw => rq_mark g x w hx (hst.at hw) [123])) rfl rfl ?_
    repeat (first | refine yK ?_ | refine yL 1 ?_ | refine yS 1 ?_)
    rename_i b3 b7
    refine sy_ov (ov_call rfl (fun w hw => hmay0 w ((hst.at hw).on q1.on))) rfl rfl ?_
    repeat (first | refine yK ?_ | refine yP ?_ | refine yG ?_ | refine yS 0 ?_ | refine yM ?_ | (refine yA ?_; intro _) | refine yN ?_)
    refine sy_weaken (fun _ _ h => h) (sd sr) ?_
    refine sy_prts0 ?_
    refine sy_grow 82 18 ?_
    refine sy_order [3, 0, 1, 2] rfl rfl ?_
    simp only [oX]
    refine sy_loop (α := QpSt) (fun s => [(1, .bool true), (2, .int .i64 (24 - n)), (3, ptr b3), (7, ptr b7), (10, .slice s.z.p s.z.zs.length s.z.c)]) (fun s => qpH g b3 b7 s.x s.z) (fun s => QsI (x.must [123]) (qprt (qknd n) true) [125] R s.x (plPs s.z.zs)) (fun s => qsM s.x) ⟨x.must [123], [], none, 0⟩ hs ⟨zz, zz, zz, zz, zz, trivial⟩ (by simp only [qpH, prtsRow]; exact sk (sk (sk (sk nl)))) ?_
    rintro ⟨x', zs, pk, ck⟩ hI
    simp only at hI
    simp only [qpH, prtsRow]
    have qa := hI.qa
    have hx' := qa.ok
    have al := qa.len
    have hzl := plPs_len zs
    have ap := QA.prt (QA.knd n) hx' true
    by_cases he : x'.e = 0
    · have hlen := hI.len he
      rw [hzl] at hlen
      have hpos := hx'.ne
      have hmay := fun w h => rq_may g (qprt (qknd n) true x').2 w ap.ok h [125]
      repeat (first | refine yK ?_ | refine yL 0 ?_)
      refine sy_ov (ov_call rfl (fun w _ => rq_fine g x' w true (by simp [he]))) rfl rfl ?_
      repeat (first | refine yK ?_ | refine yP ?_ | refine yL 0 ?_ | refine yT ?_)
      refine sy_callN rfl rfl (fun w hw => rq_part n hk true g x' w hx' (by omega) ((hst.at hw).on (q1.on.trans qa.on))) ?_
      rintro _ _ ⟨z, rfl, hz, rfl⟩
      have e1 : (zs ++ [z]).length = zs.length + 1 := by simp
      have e2 := prts_snoc zs z
      have e3 : plPs (zs ++ [z]) = plPs zs ++ [(qprt (qknd n) true x').1] := by rw [plPs_snoc, hz]
      obtain ⟨zn, zb, zlab, zw', zck, zcn, zca, zcl, ⟨zk, za, zlo, zhi, zmo, zns, zpp, zcp, zparts, znm⟩⟩ := z
      simp only [prtV, typV, cX] at e2 ⊢
      repeat (first | refine yK ?_ | refine yP ?_ | refine yL 1 ?_ | refine yS 0 ?_ | refine yS 1 ?_ | (refine yA ?_; intro _))
      rename_i b11 b12
      refine sy_frame [(1, .bool true), (2, .int .i64 (24 - n)), (3, ptr b3), (7, ptr b7), (10, .slice pk zs.length ck), (12, ptr b12), (37, .slice pk zs.length ck), (38, .agg ⟨prtC zn zb zlab zw' zck zcn zca zcl (typV (.mk zk za zlo zhi zmo zns zpp zcp zparts znm))⟩)] ⟨⟨_, rfl, rfl⟩, ⟨_, rfl, rfl⟩, ⟨_, rfl, rfl⟩, ⟨_, rfl, rfl⟩, ⟨_, rfl, rfl⟩, ⟨_, rfl, rfl⟩, ⟨_, rfl, rfl⟩, ⟨_, rfl, congrArg (fun l => Value.agg ⟨l⟩) (load_whole rfl rfl)⟩, trivial⟩ ?_
      simp only [prtC, typV, cX]
      refine sy_weaken (fun _ _ h => h) (sk (sd sr)) ?_
      refine sy_buildSlice rfl rfl rfl rfl rfl rfl rfl rfl ?_
      intro g2
      refine sy_cells 0 (prtC zn zb zlab zw' zck zcn zca zcl (typV (.mk zk za zlo zhi zmo zns zpp zcp zparts znm))) rfl (upd0 _ _ rfl) ?_
      simp only [prtC, typV, List.set_cons_zero, cX]
      refine sy_append 4 0 rfl rfl rfl rfl rfl rfl rfl rfl rfl rfl rfl (by omega) (by show (_ + 1) * 224 ≤ _; omega) ?_
      intro p' q'
      refine sy_weaken (fun _ _ h => h) (sd sr) ?_
      by_cases hb : (qprt (qknd n) true x').2.mayB [125] = true
      · have hr' := hI.over he hb
        subst hr'
        rw [hb, show (qprt (qknd n) true x').2.may [125] = (qprt (qknd n) true x').2.adv from if_pos hb] at hmay
        repeat (first | refine yK ?_ | refine yP ?_ | refine yL 0 ?_)
        refine sy_ov (ov_call rfl (fun w hw => hmay w ((hst.at hw).on (q1.on.trans (qa.on.trans ap.on))))) rfl rfl ?_
        repeat (first | refine yK ?_ | refine yP ?_ | refine yS 0 ?_ | (refine yA ?_; intro _) | refine yT ?_)
        refine sy_vecIs (n' := (zs ++ [(PrtA.mk zn zb zlab zw' zck zcn zca zcl (TypA.mk zk za zlo zhi zmo zns zpp zcp zparts znm))]).length) (cs' := (zs ++ [(PrtA.mk zn zb zlab zw' zck zcn zca zcl (TypA.mk zk za zlo zhi zmo zns zpp zcp zparts znm))]).flatMap prtV) 4 rfl e1.symm (e2.symm ▸ rfl) ?_
        refine sy_order [5, 2, 0, 1, 3, 4, 6] rfl rfl ?_
        simp only [oX]
        refine sy_prtsAdd ?_
        refine sy_order [4, 0, 5, 1, 2, 3] rfl rfl ?_
        simp only [oX]
        refine sy_draw 3 (by kernel_rfl) ?_
        repeat (first | refine dr_op (ov_p rfl) rfl rfl ?_ | refine dr_op (ov_ld 3 rfl rfl rfl) rfl rfl ?_ | refine dr_end ?_)
        repeat (first | refine yK ?_ | refine yS 2 ?_ | refine sy_rt ?_)
        exact ret2cw 2 rfl rfl rfl rfl rfl rfl fun w' hw' => ⟨_, _, ⟨⟨zs ++ [(PrtA.mk zn zb zlab zw' zck zcn zca zcl (TypA.mk zk za zlo zhi zmo zns zpp zcp zparts znm))], some p', q'⟩, by rw [e1]; rfl, e3, rfl⟩, rfl, hw'.weaken (sk (sk nl))⟩
      · have hb : (qprt (qknd n) true x').2.mayB [125] = false := by simpa using hb
        obtain ⟨hn, hm⟩ := hI.next he ap hb
        rw [hb, show (qprt (qknd n) true x').2.may [125] = (qprt (qknd n) true x').2 from if_neg (by rw [hb]; decide)] at hmay
        repeat (first | refine yK ?_ | refine yP ?_ | refine yL 0 ?_)
        refine sy_ov (ov_call rfl (fun w hw => hmay w ((hst.at hw).on (q1.on.trans (qa.on.trans ap.on))))) rfl rfl ?_
        repeat (first | refine yK ?_ | refine yP ?_ | refine yL 1 ?_ | refine yS 0 ?_ | (refine yA ?_; intro _) | refine yN ?_)
        refine sy_ov (ov_call rfl (fun w hw => rq_mark g _ w ap.ok ((hst.at hw).on (q1.on.trans (qa.on.trans ap.on))) [44])) rfl rfl ?_
        refine sy_vecIs (n' := (zs ++ [(PrtA.mk zn zb zlab zw' zck zcn zca zcl (TypA.mk zk za zlo zhi zmo zns zpp zcp zparts znm))]).length) (cs' := (zs ++ [(PrtA.mk zn zb zlab zw' zck zcn zca zcl (TypA.mk zk za zlo zhi zmo zns zpp zcp zparts znm))]).flatMap prtV) 4 rfl e1.symm (e2.symm ▸ rfl) ?_
        refine sy_order [5, 2, 0, 1, 3, 4, 6] rfl rfl ?_
        simp only [oX]
        refine sy_prtsAdd ?_
        refine sy_order [3, 4, 0, 5, 1, 2] rfl rfl ?_
        simp only [oX]
        repeat (first | refine yK ?_ | refine yS 0 ?_)
        refine sy_back ⟨(qprt (qknd n) true x').2.must [44], zs ++ [(PrtA.mk zn zb zlab zw' zck zcn zca zcl (TypA.mk zk za zlo zhi zmo zns zpp zcp zparts znm))], some p', q'⟩ (by simp only; rw [e3]; exact hn) hm ⟨zz, zz, zz, zz, ⟨_, rfl, by simp only [e1]⟩, trivial⟩ (by simp only [qpH, prtsRow]; exact sk (sk (sk (sk nl))))
    · have hr' := hI.bad he
      subst hr'
      repeat (first | refine yK ?_ | refine yL 0 ?_)
      refine sy_ov (ov_call rfl (fun w _ => rq_fine g x' w false (by simp [he]))) rfl rfl ?_
      refine sy_prts0 ?_
      refine sy_grow 82 18 ?_
      refine sy_order [0, 1, 5, 2, 3, 4] rfl rfl ?_
      simp only [oX]
      repeat (first | refine yK ?_ | refine yN ?_)
      refine sy_draw 2 (by kernel_rfl) ?_
      repeat (first | refine dr_op (ov_p rfl) rfl rfl ?_ | refine dr_op (ov_ld 3 rfl rfl rfl) rfl rfl ?_ | refine dr_end ?_)
      repeat (first | refine yK ?_ | refine yS 2 ?_ | refine sy_rt ?_)
      exact ret2cw 2 rfl rfl rfl rfl rfl rfl fun w' hw' => ⟨_, _, ⟨⟨[], none, 0⟩, rfl, rfl, rfl⟩, rfl, hw'.weaken (sk (sk nl))⟩
 · rw [if_neg (fun h => h0 h.1)]
   have h0 : (x.must [123]).mayB [125] = false := by simpa using h0
   rw [h0, show (x.must [123]).may [125] = x.must [123] from if_neg (by rw [h0]; decide)] at hmay0
   have hs := QsI.start q1.ok (qprt (qknd n) tag) [125]
   obtain ⟨R, hR⟩ : ∃ R, qlstGo (qprt (qknd n) tag) [125] ((x.must [123]).l.length + 1) (x.must [123]) [] = R := ⟨_, rfl⟩
   rw [hR] at hs ⊢
   refine sy_enter rfl rfl ?_
   simp only [initFr]
   repeat (first | refine yK ?_ | refine yP ?_ | refine yL 1 ?_ | (refine yX ?_; intro _) | (refine yA ?_; intro _))
   refine sy_ov (ov_call rfl (fun w hw => rq_mark g x w hx (hst.at hw) [123])) rfl rfl ?_
   repeat (first | refine yK ?_ | refine yL 1 ?_ | refine yS 1 ?_)
   rename_i b3 b7
   refine sy_ov (ov_call rfl (fun w hw => hmay0 w ((hst.at hw).on q1.on))) rfl rfl ?_
   repeat (first | refine yK ?_ | refine yP ?_ | refine yH ?_ | refine yS 0 ?_ | refine sy_ov (ov_pick rfl rfl rfl) rfl rfl ?_ | (refine yA ?_; intro _) | refine yN ?_)
   refine sy_weaken (fun _ _ h => h) (sd sr) ?_
   refine sy_prts0 ?_
   refine sy_grow 82 18 ?_
   refine sy_order [3, 0, 1, 2] rfl rfl ?_
   simp only [oX]
   refine sy_loop (α := QpSt) (fun s => [(1, .bool tag), (2, .int .i64 (24 - n)), (3, ptr b3), (7, ptr b7), (10, .slice s.z.p s.z.zs.length s.z.c)]) (fun s => qpH g b3 b7 s.x s.z) (fun s => QsI (x.must [123]) (qprt (qknd n) tag) [125] R s.x (plPs s.z.zs)) (fun s => qsM s.x) ⟨x.must [123], [], none, 0⟩ hs ⟨zz, zz, zz, zz, zz, trivial⟩ (by simp only [qpH, prtsRow]; exact sk (sk (sk (sk nl)))) ?_
   rintro ⟨x', zs, pk, ck⟩ hI
   simp only at hI
   simp only [qpH, prtsRow]
   have qa := hI.qa
   have hx' := qa.ok
   have al := qa.len
   have hzl := plPs_len zs
   have ap := QA.prt (QA.knd n) hx' tag
   by_cases he : x'.e = 0
   · have hlen := hI.len he
     rw [hzl] at hlen
     have hpos := hx'.ne
     have hmay := fun w h => rq_may g (qprt (qknd n) tag x').2 w ap.ok h [125]
     repeat (first | refine yK ?_ | refine yL 0 ?_)
     refine sy_ov (ov_call rfl (fun w _ => rq_fine g x' w true (by simp [he]))) rfl rfl ?_
     repeat (first | refine yK ?_ | refine yP ?_ | refine yL 0 ?_ | refine yT ?_)
     refine sy_callN rfl rfl (fun w hw => rq_part n hk tag g x' w hx' (by omega) ((hst.at hw).on (q1.on.trans qa.on))) ?_
     rintro _ _ ⟨z, rfl, hz, rfl⟩
     have e1 : (zs ++ [z]).length = zs.length + 1 := by simp
     have e2 := prts_snoc zs z
     have e3 : plPs (zs ++ [z]) = plPs zs ++ [(qprt (qknd n) tag x').1] := by rw [plPs_snoc, hz]
     obtain ⟨zn, zb, zlab, zw', zck, zcn, zca, zcl, ⟨zk, za, zlo, zhi, zmo, zns, zpp, zcp, zparts, znm⟩⟩ := z
     simp only [prtV, typV, cX] at e2 ⊢
     repeat (first | refine yK ?_ | refine yP ?_ | refine yL 1 ?_ | refine yS 0 ?_ | refine yS 1 ?_ | (refine yA ?_; intro _))
     rename_i b11 b12
     refine sy_frame [(1, .bool tag), (2, .int .i64 (24 - n)), (3, ptr b3), (7, ptr b7), (10, .slice pk zs.length ck), (12, ptr b12), (37, .slice pk zs.length ck), (38, .agg ⟨prtC zn zb zlab zw' zck zcn zca zcl (typV (.mk zk za zlo zhi zmo zns zpp zcp zparts znm))⟩)] ⟨⟨_, rfl, rfl⟩, ⟨_, rfl, rfl⟩, ⟨_, rfl, rfl⟩, ⟨_, rfl, rfl⟩, ⟨_, rfl, rfl⟩, ⟨_, rfl, rfl⟩, ⟨_, rfl, rfl⟩, ⟨_, rfl, congrArg (fun l => Value.agg ⟨l⟩) (load_whole rfl rfl)⟩, trivial⟩ ?_
     simp only [prtC, typV, cX]
     refine sy_weaken (fun _ _ h => h) (sk (sd sr)) ?_
     refine sy_buildSlice rfl rfl rfl rfl rfl rfl rfl rfl ?_
     intro g2
     refine sy_cells 0 (prtC zn zb zlab zw' zck zcn zca zcl (typV (.mk zk za zlo zhi zmo zns zpp zcp zparts znm))) rfl (upd0 _ _ rfl) ?_
     simp only [prtC, typV, List.set_cons_zero, cX]
     refine sy_append 4 0 rfl rfl rfl rfl rfl rfl rfl rfl rfl rfl rfl (by omega) (by show (_ + 1) * 224 ≤ _; omega) ?_
     intro p' q'
     refine sy_weaken (fun _ _ h => h) (sd sr) ?_
     by_cases hb : (qprt (qknd n) tag x').2.mayB [125] = true
     · have hr' := hI.over he hb
       subst hr'
       rw [hb, show (qprt (qknd n) tag x').2.may [125] = (qprt (qknd n) tag x').2.adv from if_pos hb] at hmay
       repeat (first | refine yK ?_ | refine yP ?_ | refine yL 0 ?_)
       refine sy_ov (ov_call rfl (fun w hw => hmay w ((hst.at hw).on (q1.on.trans (qa.on.trans ap.on))))) rfl rfl ?_
       repeat (first | refine yK ?_ | refine yP ?_ | refine yS 0 ?_ | (refine yA ?_; intro _) | refine yT ?_)
       refine sy_vecIs (n' := (zs ++ [(PrtA.mk zn zb zlab zw' zck zcn zca zcl (TypA.mk zk za zlo zhi zmo zns zpp zcp zparts znm))]).length) (cs' := (zs ++ [(PrtA.mk zn zb zlab zw' zck zcn zca zcl (TypA.mk zk za zlo zhi zmo zns zpp zcp zparts znm))]).flatMap prtV) 4 rfl e1.symm (e2.symm ▸ rfl) ?_
       refine sy_order [5, 2, 0, 1, 3, 4, 6] rfl rfl ?_
       simp only [oX]
       refine sy_prtsAdd ?_
       refine sy_order [4, 0, 5, 1, 2, 3] rfl rfl ?_
       simp only [oX]
       refine sy_draw 3 (by kernel_rfl) ?_
       repeat (first | refine dr_op (ov_p rfl) rfl rfl ?_ | refine dr_op (ov_ld 3 rfl rfl rfl) rfl rfl ?_ | refine dr_end ?_)
       repeat (first | refine yK ?_ | refine yS 2 ?_ | refine sy_rt ?_)
       exact ret2cw 2 rfl rfl rfl rfl rfl rfl fun w' hw' => ⟨_, _, ⟨⟨zs ++ [(PrtA.mk zn zb zlab zw' zck zcn zca zcl (TypA.mk zk za zlo zhi zmo zns zpp zcp zparts znm))], some p', q'⟩, by rw [e1]; rfl, e3, rfl⟩, rfl, hw'.weaken (sk (sk nl))⟩
     · have hb : (qprt (qknd n) tag x').2.mayB [125] = false := by simpa using hb
       obtain ⟨hn, hm⟩ := hI.next he ap hb
       rw [hb, show (qprt (qknd n) tag x').2.may [125] = (qprt (qknd n) tag x').2 from if_neg (by rw [hb]; decide)] at hmay
       repeat (first | refine yK ?_ | refine yP ?_ | refine yL 0 ?_)
       refine sy_ov (ov_call rfl (fun w hw => hmay w ((hst.at hw).on (q1.on.trans (qa.on.trans ap.on))))) rfl rfl ?_
       repeat (first | refine yK ?_ | refine yP ?_ | refine yL 1 ?_ | refine yS 0 ?_ | (refine yA ?_; intro _) | refine yN ?_)
       refine sy_ov (ov_call rfl (fun w hw => rq_mark g _ w ap.ok ((hst.at hw).on (q1.on.trans (qa.on.trans ap.on))) [44])) rfl rfl ?_
       refine sy_vecIs (n' := (zs ++ [(PrtA.mk zn zb zlab zw' zck zcn zca zcl (TypA.mk zk za zlo zhi zmo zns zpp zcp zparts znm))]).length) (cs' := (zs ++ [(PrtA.mk zn zb zlab zw' zck zcn zca zcl (TypA.mk zk za zlo zhi zmo zns zpp zcp zparts znm))]).flatMap prtV) 4 rfl e1.symm (e2.symm ▸ rfl) ?_
       refine sy_order [5, 2, 0, 1, 3, 4, 6] rfl rfl ?_
       simp only [oX]
       refine sy_prtsAdd ?_
       refine sy_order [3, 4, 0, 5, 1, 2] rfl rfl ?_
       simp only [oX]
       repeat (first | refine yK ?_ | refine yS 0 ?_)
       refine sy_back ⟨(qprt (qknd n) tag x').2.must [44], zs ++ [(PrtA.mk zn zb zlab zw' zck zcn zca zcl (TypA.mk zk za zlo zhi zmo zns zpp zcp zparts znm))], some p', q'⟩ (by simp only; rw [e3]; exact hn) hm ⟨zz, zz, zz, zz, ⟨_, rfl, by simp only [e1]⟩, trivial⟩ (by simp only [qpH, prtsRow]; exact sk (sk (sk (sk nl))))
   · have hr' := hI.bad he
     subst hr'
     repeat (first | refine yK ?_ | refine yL 0 ?_)
     refine sy_ov (ov_call rfl (fun w _ => rq_fine g x' w false (by simp [he]))) rfl rfl ?_
     refine sy_prts0 ?_
     refine sy_grow 82 18 ?_
     refine sy_order [0, 1, 5, 2, 3, 4] rfl rfl ?_
     simp only [oX]
     repeat (first | refine yK ?_ | refine yN ?_)
     refine sy_draw 2 (by kernel_rfl) ?_
     repeat (first | refine dr_op (ov_p rfl) rfl rfl ?_ | refine dr_op (ov_ld 3 rfl rfl rfl) rfl rfl ?_ | refine dr_end ?_)
     repeat (first | refine yK ?_ | refine yS 2 ?_ | refine sy_rt ?_)
     exact ret2cw 2 rfl rfl rfl rfl rfl rfl fun w' hw' => ⟨_, _, ⟨⟨[], none, 0⟩, rfl, rfl, rfl⟩, rfl, hw'.weaken (sk (sk nl))⟩
end
theorem sy_typWs {P : Program} {C : Cx} {k : List It} {fr : Fr} {hp : List En} (kk a lo hi most : Int) (nm : WordT) {ns : WsA} (h : Sy P C k fr (typE (.mk kk a lo hi most ns none 0 [] nm) :: hp)) : Sy P C k fr (wsE ns :: hp) :=
 sy_imp (typE (.mk kk a lo hi most ns none 0 [] nm)) (fun b hb => by
  simp only [typE, domT, domPs] at hb
  rcases hb with hb | ⟨o, h, _⟩ | h
  · exact hb
  · cases h
  · exact h.elim) (fun w h => by
  simp only [typE, TypJ, PrtsJ]
  exact ⟨h, Nat.zero_le _, IsSl.nil _ _ _, trivial⟩) h
section
variable (g : Nat) (x : PS) (w : World)
set_option maxRecDepth 20000 in
set_option maxHeartbeats 4000000 in
theorem rq_kind_bad (n : Nat) (he : x.e ≠ 0) (v : Int) : Calls Tryz.prog 29 #[.agg ⟨ptW g x⟩, .int .i64 v] w (PostN w (TyN g (ztP, x))) := by
 refine sy_enter rfl rfl ?_
 simp only [initFr]
 repeat (first | refine yK ?_ | refine yL 2 ?_ | (refine yX ?_; intro _) | (refine yA ?_; intro _))
 refine sy_ov (ov_call rfl (fun w _ => rq_fine g x w false (by simp [he]))) rfl rfl ?_
 repeat (first | refine yK ?_ | refine yP ?_ | refine yT ?_)
 refine sy_typN 0 0 0 0 0 zw ?_
 refine sy_drawE _ 3 [(0, false), (1, false), (2, true)] (by kernel_rfl) rfl ((sd (sd (sd (sk nl))))) ?_
 repeat (first | refine dre_rd (fun _ _ => ov_ld 0 rfl rfl rfl) rfl ?_ | refine dre_rd (fun _ _ => ov_build rfl rfl rfl) rfl ?_ | (refine dre_ef rfl ?_; refine yS 2 ?_; refine dre_ek (by repeat first | exact sr | apply sk | apply sd) ?_) | refine dre_end ?_)
 repeat (first | refine yK ?_ | refine yS 1 ?_ | refine sy_rt ?_)
 exact ret_ccw 2 1 rfl rfl rfl rfl rfl rfl rfl rfl rfl fun w' hw' => ⟨_, _, ⟨.mk 0 0 0 0 0 ws0 none 0 [] zw, rfl, by simp only [plT, plPs]; rfl, rfl⟩, rfl, hw'.weaken (sk nl)⟩
set_option maxRecDepth 20000 in
set_option maxHeartbeats 4000000 in
theorem rq_kind_deep (hx : x.Ok) (hT : TkAt g x w) (he : x.e = 0) : Calls Tryz.prog 29 #[.agg ⟨ptW g x⟩, .int .i64 (24 - ((0 : Nat) : Int))] w (PostN w (TyN g (atP (hdT x.l).2.1, x.failH 6))) := by
 have hst : St (fun _ => False) w (fun w => TkAt g x w) := St.start (TkAt.bl g x) hT
 obtain ⟨t, ht, hh⟩ := hx.hd
 have hne := hx.ne
 have hf : x.failH 6 = ⟨x.off, x.l, x.c, x.m, 6, t.2.1⟩ := by unfold PS.failH; rw [hh]
 rw [hf, hh]
 refine sy_enter rfl rfl ?_
 simp only [initFr]
 repeat (first | refine yK ?_ | refine yL 2 ?_ | (refine yX ?_; intro _) | (refine yA ?_; intro _))
 refine sy_ov (ov_call rfl (fun w _ => rq_fine g x w true (by simp [he]))) rfl rfl ?_
 repeat (first | refine yK ?_ | refine yP ?_ | refine yL 2 ?_ | refine yF ?_ | (refine yD ?_ ?_ ?_; omega; omega) | refine yN ?_)
 refine sy_ov (ov_loadxa (vs := tokV t) rfl rfl rfl (fun w hw j u hj => tk_at (hst.at hw) ht j hj)) rfl rfl ?_
 repeat (first | refine yK ?_ | refine yP ?_ | refine yL 0 ?_ | refine yS 0 ?_ | refine yF ?_ | refine yB ?_ | (refine yA ?_; intro _) | refine yT ?_)
 refine sy_typN 0 t.2.1 0 0 0 zw ?_
 refine sy_drawE _ 8 [(0, false), (1, false), (2, false), (3, false), (4, false), (5, false), (6, false), (7, true)] (by kernel_rfl) rfl ((sd (sk (sk (sd (sd (sk nl))))))) ?_
 repeat (first | refine dre_rd (fun _ _ => ov_ld 0 rfl rfl rfl) rfl ?_ | refine dre_rd (fun _ _ => ov_ld 1 rfl rfl rfl) rfl ?_ | refine dre_rd (fun _ _ => ov_ld 2 rfl rfl rfl) rfl ?_ | refine dre_rd (fun _ _ => ov_fieldAddr rfl rfl rfl) rfl ?_ | refine dre_rd (fun _ _ => ov_build rfl rfl rfl) rfl ?_ | (refine dre_ef rfl ?_; refine yS 4 ?_; refine dre_ek (by repeat first | exact sr | apply sk | apply sd) ?_) | refine dre_end ?_)
 refine sy_cells 4 (tC 0 t.2.1 0 0 0 nilS nilS zw) rfl (upd0 _ _ rfl) ?_
 repeat (first | refine yK ?_ | refine yS 3 ?_ | refine sy_rt ?_)
 exact ret_ccw 4 3 rfl rfl rfl rfl rfl rfl rfl rfl rfl fun w' hw' => ⟨_, _, ⟨.mk 0 t.2.1 0 0 0 ws0 none 0 [] zw, rfl, by simp only [plT, plPs]; rfl, rfl⟩, rfl, hw'.weaken (sk nl)⟩
set_option maxRecDepth 20000 in
set_option maxHeartbeats 4000000 in
theorem rq_kind_odd (n : Nat) (hn : n < 24) (hx : x.Ok) (hT : TkAt g x w) (he : x.e = 0) (h1 : (hdT x.l).1 ≠ 1) : Calls Tryz.prog 29 #[.agg ⟨ptW g x⟩, .int .i64 (24 - ((n + 1 : Nat) : Int))] w (PostN w (TyN g (atP (hdT x.l).2.1, x.odd))) := by
 have hst : St (fun _ => False) w (fun w => TkAt g x w) := St.start (TkAt.bl g x) hT
 obtain ⟨t, ht, hh⟩ := hx.hd
 have hne := hx.ne
 rw [hh] at h1 ⊢
 refine sy_enter rfl rfl ?_
 simp only [initFr]
 repeat (first | refine yK ?_ | refine yL 2 ?_ | (refine yX ?_; intro _) | (refine yA ?_; intro _))
 refine sy_ov (ov_call rfl (fun w _ => rq_fine g x w true (by simp [he]))) rfl rfl ?_
 repeat (first | refine yK ?_ | refine yP ?_ | refine yL 2 ?_ | refine yF ?_ | (refine yD ?_ ?_ ?_; omega; omega) | refine yN ?_)
 refine sy_ov (ov_loadxa (vs := tokV t) rfl rfl rfl (fun w hw j u hj => tk_at (hst.at hw) ht j hj)) rfl rfl ?_
 repeat (first | refine yK ?_ | refine yP ?_ | refine yL 0 ?_ | refine yL 1 ?_ | refine yS 0 ?_ | refine yF ?_ | refine yB ?_ | (refine yA ?_; intro _) | refine yT ?_ | refine yN ?_)
 refine sy_typN 0 t.2.1 0 0 0 zw ?_
 refine sy_order [1, 2, 3, 4, 5, 0] rfl rfl ?_
 simp only [oX]
 refine sy_draw 3 (by kernel_rfl) ?_
 repeat (first | refine dr_op (ov_ld 0 rfl rfl rfl) rfl rfl ?_ | refine dr_op (ov_ld 4 rfl rfl rfl) rfl rfl ?_)
 refine dr_op (ov_call rfl (fun w hw => rq_wrong g x w hx (hst.at hw))) rfl rfl ?_
 repeat (refine dr_end ?_)
 repeat (first | refine yK ?_ | refine yS 2 ?_ | refine yS 3 ?_ | refine sy_rt ?_)
 exact ret_ccw 3 2 rfl rfl rfl rfl rfl rfl rfl rfl rfl fun w' hw' => ⟨_, _, ⟨.mk 0 t.2.1 0 0 0 ws0 none 0 [] zw, rfl, by simp only [plT, plPs]; rfl, rfl⟩, rfl, hw'.weaken (sd (sd (sd (sd (sd sr)))))⟩
end
section
variable (g : Nat) (x : PS) (w : World)
set_option maxRecDepth 20000 in
set_option maxHeartbeats 8000000 in
theorem rq_kind_bool (n : Nat) (hn : n < 24) (hx : x.Ok) (hl : x.l.length ≤ 65537) (hT : TkAt g x w) (he : x.e = 0) (h1 : (hdT x.l).1 = 1) (c : (hdT x.l).2.2.2.1 = wBool) : Calls Tryz.prog 29 #[.agg ⟨ptW g x⟩, .int .i64 (24 - ((n + 1 : Nat) : Int))] w (PostN w (TyN g (qbod (qknd n) wBool (hdT x.l).2.1 x.adv).2)) := by
 have hst : St (fun _ => False) w (fun w => TkAt g x w) := St.start (TkAt.bl g x) hT
 obtain ⟨t, ht, hh⟩ := hx.hd
 have hne := hx.ne
 have h0 : (hdT x.l).1 ≠ 0 := by rw [h1]; decide
 rw [hh] at h1 c ⊢
 have qa := QA.advK hx h0
 have qal := qa.len
 have q1 := qa.trans (QA.must qa.ok [40])
 have q1l := q1.len
 have hq : qbod (qknd n) wBool t.2.1 x.adv = (true, .mk 1 t.2.1 0 0 0 [] [] zw, x.adv) := by
  unfold qbod; rw [if_pos rfl]
 rw [hq]
 refine sy_enter rfl rfl ?_
 simp only [initFr]
 repeat (first | refine yK ?_ | refine yL 2 ?_ | (refine yX ?_; intro _) | (refine yA ?_; intro _))
 refine sy_ov (ov_call rfl (fun w _ => rq_fine g x w true (by simp [he]))) rfl rfl ?_
 repeat (first | refine yK ?_ | refine yP ?_ | refine yL 2 ?_ | refine yF ?_ | (refine yD ?_ ?_ ?_; omega; omega) | refine yN ?_)
 refine sy_ov (ov_loadxa (vs := tokV t) rfl rfl rfl (fun w hw j u hj => tk_at (hst.at hw) ht j hj)) rfl rfl ?_
 repeat (first | refine yK ?_ | refine yP ?_ | refine yL 0 ?_ | refine yL 1 ?_ | refine yL 4 ?_ | refine yS 0 ?_ | refine yF ?_ | refine yB ?_ | (refine yA ?_; intro _) | refine yN ?_)
 refine sy_ov (ov_call rfl (fun w _ => rq_on g x w hx h0)) rfl rfl ?_
 repeat (first | refine yK ?_ | refine yP ?_ | refine yL 1 ?_ | refine yS 0 ?_ | refine yS 4 ?_ | refine yF ?_ | refine yT ?_)
 refine sy_weaken (fun _ _ h => h) (sk (sd sr)) ?_
 refine sy_typN 1 t.2.1 0 0 0 zw ?_
 refine sy_cells 1 (tC 1 t.2.1 0 0 0 nilS nilS zw) rfl rfl ?_
 simp only [tC, nilS, List.set_cons_zero, List.set_cons_succ]
 refine sy_drawE _ 3 [(0, false), (1, false), (2, true)] (by kernel_rfl) rfl ((sd (sk (sd (sd (sk nl)))))) ?_
 repeat (first | refine dre_rd (fun _ _ => ov_ld 0 rfl rfl rfl) rfl ?_ | refine dre_rd (fun _ _ => ov_ld 1 rfl rfl rfl) rfl ?_ | (refine dre_ef rfl ?_; refine yS 3 ?_; refine dre_ek (by repeat first | exact sr | apply sk | apply sd) ?_) | refine dre_end ?_)
 refine sy_cells 3 (tC 1 t.2.1 0 0 0 nilS nilS zw) rfl (upd0 _ _ rfl) ?_
 repeat (first | refine yK ?_ | refine yS 2 ?_ | refine sy_rt ?_)
 exact ret_ccw 3 2 rfl rfl rfl rfl rfl rfl rfl rfl rfl fun w' hw' => ⟨_, _, ⟨(.mk 1 t.2.1 0 0 0 ws0 none 0 [] zw), rfl, by simp only [plT, plPs]; rfl, rfl⟩, rfl, hw'.weaken (sk nl)⟩
set_option maxRecDepth 20000 in
set_option maxHeartbeats 8000000 in
theorem rq_kind_int (n : Nat) (hn : n < 24) (hx : x.Ok) (hl : x.l.length ≤ 65537) (hT : TkAt g x w) (he : x.e = 0) (h1 : (hdT x.l).1 = 1) (c : (hdT x.l).2.2.2.1 = wInt) : Calls Tryz.prog 29 #[.agg ⟨ptW g x⟩, .int .i64 (24 - ((n + 1 : Nat) : Int))] w (PostN w (TyN g (qbod (qknd n) wInt (hdT x.l).2.1 x.adv).2)) := by
 have hst : St (fun _ => False) w (fun w => TkAt g x w) := St.start (TkAt.bl g x) hT
 obtain ⟨t, ht, hh⟩ := hx.hd
 have hne := hx.ne
 have h0 : (hdT x.l).1 ≠ 0 := by rw [h1]; decide
 rw [hh] at h1 c ⊢
 have qa := QA.advK hx h0
 have qal := qa.len
 have q1 := qa.trans (QA.must qa.ok [40])
 have q1l := q1.len
 have n0 : t.2.2.2.1 ≠ wBool := by rw [c]; decide
 have hq : qbod (qknd n) wInt t.2.1 x.adv = (true, .mk 2 t.2.1 (((x.adv.must [40]).tok 2).2.2.2.2) (((((x.adv.must [40]).any 2).must [46, 46]).tok 2).2.2.2.2) 0 [] [] zw, ((((x.adv.must [40]).any 2).must [46, 46]).any 2).must [41]) := by
  unfold qbod; rw [if_neg (by decide), if_pos rfl]
 rw [hq]
 have q2 := q1.trans (QA.any q1.ok (by decide : (2 : Int) ≠ 0))
 have q3 := q2.trans (QA.must q2.ok [46, 46])
 have q4 := q3.trans (QA.any q3.ok (by decide : (2 : Int) ≠ 0))
 refine sy_enter rfl rfl ?_
 simp only [initFr]
 repeat (first | refine yK ?_ | refine yL 2 ?_ | (refine yX ?_; intro _) | (refine yA ?_; intro _))
 refine sy_ov (ov_call rfl (fun w _ => rq_fine g x w true (by simp [he]))) rfl rfl ?_
 repeat (first | refine yK ?_ | refine yP ?_ | refine yL 2 ?_ | refine yF ?_ | (refine yD ?_ ?_ ?_; omega; omega) | refine yN ?_)
 refine sy_ov (ov_loadxa (vs := tokV t) rfl rfl rfl (fun w hw j u hj => tk_at (hst.at hw) ht j hj)) rfl rfl ?_
 repeat (first | refine yK ?_ | refine yP ?_ | refine yL 0 ?_ | refine yL 1 ?_ | refine yL 4 ?_ | refine yS 0 ?_ | refine yF ?_ | refine yB ?_ | (refine yA ?_; intro _) | refine yN ?_)
 refine sy_ov (ov_call rfl (fun w _ => rq_on g x w hx h0)) rfl rfl ?_
 repeat (first | refine yK ?_ | refine yP ?_ | refine yL 1 ?_ | refine yL 4 ?_ | refine yS 0 ?_ | refine yS 4 ?_ | refine yF ?_ | refine yT ?_ | refine yN ?_)
 rename_i b2 b4 b5 b6 b7
 refine sy_weaken (fun _ _ h => h) (sk (sd sr)) ?_
 refine sy_cells 0 (tC 2 t.2.1 0 0 0 nilS nilS zw) rfl rfl ?_
 refine sy_cells 3 (ptW g x.adv) rfl rfl ?_
 simp only [tC, nilS, List.set_cons_zero, List.set_cons_succ]
 refine sy_frame [(1, .int .i64 (24 - ((n + 1 : Nat) : Int))), (2, ptr b2), (4, ptr b4), (5, ptr b5), (7, ptr b7), (65, .agg ⟨ptW g x.adv⟩)] ⟨zz, zz, zz, zz, zz, zz, trivial⟩ ?_
 refine sy_ov (ov_call rfl (fun w hw => rq_mark g _ w qa.ok ((hst.at hw).on qa.on) [40])) rfl rfl ?_
 skip
 refine sy_ov (ov_call rfl (fun w hw => rq_any g _ w q1.ok ((hst.at hw).on q1.on) 2 (by decide))) rfl rfl ?_
 repeat (first | refine yK ?_ | refine yP ?_ | refine yL 0 ?_ | refine yS 0 ?_ | refine yS 1 ?_ | (refine yA ?_; intro _))
 refine sy_ov (ov_call rfl (fun w hw => rq_mark g _ w q2.ok ((hst.at hw).on q2.on) [46, 46])) rfl rfl ?_
 skip
 refine sy_ov (ov_call rfl (fun w hw => rq_any g _ w q3.ok ((hst.at hw).on q3.on) 2 (by decide))) rfl rfl ?_
 repeat (first | refine yK ?_ | refine yP ?_ | refine yL 0 ?_ | refine yL 1 ?_ | refine yL 3 ?_ | refine yS 0 ?_ | refine yS 1 ?_ | refine yS 4 ?_ | refine yF ?_ | (refine yA ?_; intro _))
 refine sy_weaken (fun _ _ h => h) (sd (sd (sd (sd sr)))) ?_
 refine sy_ov (ov_call rfl (fun w hw => rq_mark g _ w q4.ok ((hst.at hw).on q4.on) [41])) rfl rfl ?_
 refine sy_typN 2 t.2.1 (((x.adv.must [40]).tok 2).2.2.2.2) (((((x.adv.must [40]).any 2).must [46, 46]).tok 2).2.2.2.2) 0 zw ?_
 repeat (first | refine yK ?_ | refine yS 4 ?_)
 refine sy_cells 1 (tC 2 t.2.1 (((x.adv.must [40]).tok 2).2.2.2.2) (((((x.adv.must [40]).any 2).must [46, 46]).tok 2).2.2.2.2) 0 nilS nilS zw) rfl rfl ?_
 simp only [tC, nilS, List.set_cons_zero, List.set_cons_succ]
 refine sy_drawE _ 3 [(0, false), (1, false), (2, true)] (by kernel_rfl) rfl ((sd (sk (sd (sd (sk nl)))))) ?_
 repeat (first | refine dre_rd (fun _ _ => ov_ld 0 rfl rfl rfl) rfl ?_ | refine dre_rd (fun _ _ => ov_ld 1 rfl rfl rfl) rfl ?_ | (refine dre_ef rfl ?_; refine yS 3 ?_; refine dre_ek (by repeat first | exact sr | apply sk | apply sd) ?_) | refine dre_end ?_)
 refine sy_cells 3 (tC 2 t.2.1 (((x.adv.must [40]).tok 2).2.2.2.2) (((((x.adv.must [40]).any 2).must [46, 46]).tok 2).2.2.2.2) 0 nilS nilS zw) rfl (upd0 _ _ rfl) ?_
 repeat (first | refine yK ?_ | refine yS 2 ?_ | refine sy_rt ?_)
 exact ret_ccw 3 2 rfl rfl rfl rfl rfl rfl rfl rfl rfl fun w' hw' => ⟨_, _, ⟨(.mk 2 t.2.1 (((x.adv.must [40]).tok 2).2.2.2.2) (((((x.adv.must [40]).any 2).must [46, 46]).tok 2).2.2.2.2) 0 ws0 none 0 [] zw), rfl, by simp only [plT, plPs]; rfl, rfl⟩, rfl, hw'.weaken (sk nl)⟩
set_option maxRecDepth 20000 in
set_option maxHeartbeats 8000000 in
theorem rq_kind_text (n : Nat) (hn : n < 24) (hx : x.Ok) (hl : x.l.length ≤ 65537) (hT : TkAt g x w) (he : x.e = 0) (h1 : (hdT x.l).1 = 1) (c : (hdT x.l).2.2.2.1 = wText) : Calls Tryz.prog 29 #[.agg ⟨ptW g x⟩, .int .i64 (24 - ((n + 1 : Nat) : Int))] w (PostN w (TyN g (qbod (qknd n) wText (hdT x.l).2.1 x.adv).2)) := by
 have hst : St (fun _ => False) w (fun w => TkAt g x w) := St.start (TkAt.bl g x) hT
 obtain ⟨t, ht, hh⟩ := hx.hd
 have hne := hx.ne
 have h0 : (hdT x.l).1 ≠ 0 := by rw [h1]; decide
 rw [hh] at h1 c ⊢
 have qa := QA.advK hx h0
 have qal := qa.len
 have q1 := qa.trans (QA.must qa.ok [40])
 have q1l := q1.len
 have n0 : t.2.2.2.1 ≠ wBool := by rw [c]; decide
 have n1 : t.2.2.2.1 ≠ wInt := by rw [c]; decide
 have hq : qbod (qknd n) wText t.2.1 x.adv = (true, .mk 3 t.2.1 0 0 (qnum x.adv).1 [] [] zw, (qnum x.adv).2) := by
  unfold qbod; rw [if_neg (by decide), if_neg (by decide), if_pos rfl]
 rw [hq]
 refine sy_enter rfl rfl ?_
 simp only [initFr]
 repeat (first | refine yK ?_ | refine yL 2 ?_ | (refine yX ?_; intro _) | (refine yA ?_; intro _))
 refine sy_ov (ov_call rfl (fun w _ => rq_fine g x w true (by simp [he]))) rfl rfl ?_
 repeat (first | refine yK ?_ | refine yP ?_ | refine yL 2 ?_ | refine yF ?_ | (refine yD ?_ ?_ ?_; omega; omega) | refine yN ?_)
 refine sy_ov (ov_loadxa (vs := tokV t) rfl rfl rfl (fun w hw j u hj => tk_at (hst.at hw) ht j hj)) rfl rfl ?_
 repeat (first | refine yK ?_ | refine yP ?_ | refine yL 0 ?_ | refine yL 1 ?_ | refine yL 4 ?_ | refine yS 0 ?_ | refine yF ?_ | refine yB ?_ | (refine yA ?_; intro _) | refine yN ?_)
 refine sy_ov (ov_call rfl (fun w _ => rq_on g x w hx h0)) rfl rfl ?_
 repeat (first | refine yK ?_ | refine yP ?_ | refine yL 1 ?_ | refine yL 4 ?_ | refine yS 0 ?_ | refine yS 4 ?_ | refine yF ?_ | refine yT ?_ | refine yN ?_)
 rename_i b2 b4 b5 b6 b7
 refine sy_weaken (fun _ _ h => h) (sk (sd sr)) ?_
 refine sy_cells 0 (tC 3 t.2.1 0 0 0 nilS nilS zw) rfl rfl ?_
 refine sy_cells 3 (ptW g x.adv) rfl rfl ?_
 simp only [tC, nilS, List.set_cons_zero, List.set_cons_succ]
 refine sy_frame [(1, .int .i64 (24 - ((n + 1 : Nat) : Int))), (2, ptr b2), (4, ptr b4), (5, ptr b5), (7, ptr b7), (88, .agg ⟨ptW g x.adv⟩)] ⟨zz, zz, zz, zz, zz, zz, trivial⟩ ?_
 refine sy_ov (ov_call rfl (fun w hw => rq_num g _ w qa.ok ((hst.at hw).on qa.on))) rfl rfl ?_
 refine sy_typN 3 t.2.1 0 0 (qnum x.adv).1 zw ?_
 repeat (first | refine yK ?_ | refine yP ?_ | refine yS 1 ?_ | refine yS 4 ?_ | refine yF ?_)
 refine sy_cells 1 (tC 3 t.2.1 0 0 (qnum x.adv).1 nilS nilS zw) rfl rfl ?_
 simp only [tC, nilS, List.set_cons_zero, List.set_cons_succ]
 refine sy_drawE _ 3 [(0, false), (1, false), (2, true)] (by kernel_rfl) rfl ((sd (sk (sd (sd (sk nl)))))) ?_
 repeat (first | refine dre_rd (fun _ _ => ov_ld 0 rfl rfl rfl) rfl ?_ | refine dre_rd (fun _ _ => ov_ld 1 rfl rfl rfl) rfl ?_ | (refine dre_ef rfl ?_; refine yS 3 ?_; refine dre_ek (by repeat first | exact sr | apply sk | apply sd) ?_) | refine dre_end ?_)
 refine sy_cells 3 (tC 3 t.2.1 0 0 (qnum x.adv).1 nilS nilS zw) rfl (upd0 _ _ rfl) ?_
 repeat (first | refine yK ?_ | refine yS 2 ?_ | refine sy_rt ?_)
 exact ret_ccw 3 2 rfl rfl rfl rfl rfl rfl rfl rfl rfl fun w' hw' => ⟨_, _, ⟨(.mk 3 t.2.1 0 0 (qnum x.adv).1 ws0 none 0 [] zw), rfl, by simp only [plT, plPs]; rfl, rfl⟩, rfl, hw'.weaken (sk nl)⟩
set_option maxRecDepth 20000 in
set_option maxHeartbeats 8000000 in
theorem rq_kind_enum (n : Nat) (hn : n < 24) (hx : x.Ok) (hl : x.l.length ≤ 65537) (hT : TkAt g x w) (he : x.e = 0) (h1 : (hdT x.l).1 = 1) (c : (hdT x.l).2.2.2.1 = wEnum) : Calls Tryz.prog 29 #[.agg ⟨ptW g x⟩, .int .i64 (24 - ((n + 1 : Nat) : Int))] w (PostN w (TyN g (qbod (qknd n) wEnum (hdT x.l).2.1 x.adv).2)) := by
 have hst : St (fun _ => False) w (fun w => TkAt g x w) := St.start (TkAt.bl g x) hT
 obtain ⟨t, ht, hh⟩ := hx.hd
 have hne := hx.ne
 have h0 : (hdT x.l).1 ≠ 0 := by rw [h1]; decide
 rw [hh] at h1 c ⊢
 have qa := QA.advK hx h0
 have qal := qa.len
 have q1 := qa.trans (QA.must qa.ok [40])
 have q1l := q1.len
 have n0 : t.2.2.2.1 ≠ wBool := by rw [c]; decide
 have n1 : t.2.2.2.1 ≠ wInt := by rw [c]; decide
 have n2 : t.2.2.2.1 ≠ wText := by rw [c]; decide
 have hq : qbod (qknd n) wEnum t.2.1 x.adv = (true, .mk 4 t.2.1 0 0 0 (qnams [41] (x.adv.must [40])).1 [] zw, (qnams [41] (x.adv.must [40])).2) := by
  unfold qbod; rw [if_neg (by decide), if_neg (by decide), if_neg (by decide), if_pos rfl]
 rw [hq]
 refine sy_enter rfl rfl ?_
 simp only [initFr]
 repeat (first | refine yK ?_ | refine yL 2 ?_ | (refine yX ?_; intro _) | (refine yA ?_; intro _))
 refine sy_ov (ov_call rfl (fun w _ => rq_fine g x w true (by simp [he]))) rfl rfl ?_
 repeat (first | refine yK ?_ | refine yP ?_ | refine yL 2 ?_ | refine yF ?_ | (refine yD ?_ ?_ ?_; omega; omega) | refine yN ?_)
 refine sy_ov (ov_loadxa (vs := tokV t) rfl rfl rfl (fun w hw j u hj => tk_at (hst.at hw) ht j hj)) rfl rfl ?_
 repeat (first | refine yK ?_ | refine yP ?_ | refine yL 0 ?_ | refine yL 1 ?_ | refine yL 4 ?_ | refine yS 0 ?_ | refine yF ?_ | refine yB ?_ | (refine yA ?_; intro _) | refine yN ?_)
 refine sy_ov (ov_call rfl (fun w _ => rq_on g x w hx h0)) rfl rfl ?_
 repeat (first | refine yK ?_ | refine yP ?_ | refine yL 1 ?_ | refine yL 4 ?_ | refine yS 0 ?_ | refine yS 4 ?_ | refine yF ?_ | refine yT ?_ | refine yN ?_)
 rename_i b2 b4 b5 b6 b7
 refine sy_weaken (fun _ _ h => h) (sk (sd sr)) ?_
 refine sy_cells 0 (tC 4 t.2.1 0 0 0 nilS nilS zw) rfl rfl ?_
 refine sy_cells 3 (ptW g x.adv) rfl rfl ?_
 simp only [tC, nilS, List.set_cons_zero, List.set_cons_succ]
 refine sy_frame [(1, .int .i64 (24 - ((n + 1 : Nat) : Int))), (2, ptr b2), (4, ptr b4), (5, ptr b5), (7, ptr b7), (97, .agg ⟨ptW g x.adv⟩)] ⟨zz, zz, zz, zz, zz, zz, trivial⟩ ?_
 refine sy_ov (ov_call rfl (fun w hw => rq_mark g _ w qa.ok ((hst.at hw).on qa.on) [40])) rfl rfl ?_
 skip
 refine sy_callN rfl rfl (fun w hw => rq_names g _ w [41] q1.ok (by omega) ((hst.at hw).on q1.on)) ?_
 rintro _ _ ⟨z, rfl, hz, rfl⟩
 simp only [cX]
 refine sy_typWs 4 t.2.1 0 0 0 zw ?_
 repeat (first | refine yK ?_ | refine yP ?_ | refine yS 1 ?_ | refine yS 4 ?_ | refine yF ?_)
 refine sy_cells 1 (tC 4 t.2.1 0 0 0 (wsV z) nilS zw) rfl rfl ?_
 simp only [tC, nilS, List.set_cons_zero, List.set_cons_succ]
 refine sy_drawE _ 3 [(0, false), (1, false), (2, true)] (by kernel_rfl) rfl ((sd (sk (sd (sd (sk nl)))))) ?_
 repeat (first | refine dre_rd (fun _ _ => ov_ld 0 rfl rfl rfl) rfl ?_ | refine dre_rd (fun _ _ => ov_ld 1 rfl rfl rfl) rfl ?_ | (refine dre_ef rfl ?_; refine yS 3 ?_; refine dre_ek (by repeat first | exact sr | apply sk | apply sd) ?_) | refine dre_end ?_)
 refine sy_cells 3 (tC 4 t.2.1 0 0 0 (wsV z) nilS zw) rfl (upd0 _ _ rfl) ?_
 repeat (first | refine yK ?_ | refine yS 2 ?_ | refine sy_rt ?_)
 exact ret_ccw 3 2 rfl rfl rfl rfl rfl rfl rfl rfl rfl fun w' hw' => ⟨_, _, ⟨(.mk 4 t.2.1 0 0 0 z none 0 [] zw), rfl, by simp only [plT, plPs]; rw [hz], rfl⟩, rfl, hw'.weaken (sk nl)⟩
set_option maxRecDepth 20000 in
set_option maxHeartbeats 8000000 in
theorem rq_kind_record (n : Nat) (hn : n < 24) (hk : KdN n) (hx : x.Ok) (hl : x.l.length ≤ 65537) (hT : TkAt g x w) (he : x.e = 0) (h1 : (hdT x.l).1 = 1) (c : (hdT x.l).2.2.2.1 = wRecord) : Calls Tryz.prog 29 #[.agg ⟨ptW g x⟩, .int .i64 (24 - ((n + 1 : Nat) : Int))] w (PostN w (TyN g (qbod (qknd n) wRecord (hdT x.l).2.1 x.adv).2)) := by
 have hst : St (fun _ => False) w (fun w => TkAt g x w) := St.start (TkAt.bl g x) hT
 obtain ⟨t, ht, hh⟩ := hx.hd
 have hne := hx.ne
 have h0 : (hdT x.l).1 ≠ 0 := by rw [h1]; decide
 rw [hh] at h1 c ⊢
 have qa := QA.advK hx h0
 have qal := qa.len
 have q1 := qa.trans (QA.must qa.ok [40])
 have q1l := q1.len
 have n0 : t.2.2.2.1 ≠ wBool := by rw [c]; decide
 have n1 : t.2.2.2.1 ≠ wInt := by rw [c]; decide
 have n2 : t.2.2.2.1 ≠ wText := by rw [c]; decide
 have n3 : t.2.2.2.1 ≠ wEnum := by rw [c]; decide
 have n4 : t.2.2.2.1 ≠ wList := by rw [c]; decide
 have n5 : t.2.2.2.1 ≠ wOpt := by rw [c]; decide
 have hq : qbod (qknd n) wRecord t.2.1 x.adv = (true, .mk 7 t.2.1 0 0 0 [] (qprts (qknd n) false x.adv).1 zw, (qprts (qknd n) false x.adv).2) := by
  unfold qbod; rw [if_neg (by decide), if_neg (by decide), if_neg (by decide), if_neg (by decide), if_neg (by decide), if_neg (by decide), if_neg (by decide), if_pos rfl]
 rw [hq]
 have hd1 : (24 : Int) - ((n + 1 : Nat) : Int) + 1 = 24 - (n : Int) := by omega
 refine sy_enter rfl rfl ?_
 simp only [initFr]
 repeat (first | refine yK ?_ | refine yL 2 ?_ | (refine yX ?_; intro _) | (refine yA ?_; intro _))
 refine sy_ov (ov_call rfl (fun w _ => rq_fine g x w true (by simp [he]))) rfl rfl ?_
 repeat (first | refine yK ?_ | refine yP ?_ | refine yL 2 ?_ | refine yF ?_ | (refine yD ?_ ?_ ?_; omega; omega) | refine yN ?_)
 refine sy_ov (ov_loadxa (vs := tokV t) rfl rfl rfl (fun w hw j u hj => tk_at (hst.at hw) ht j hj)) rfl rfl ?_
 repeat (first | refine yK ?_ | refine yP ?_ | refine yL 0 ?_ | refine yL 1 ?_ | refine yL 4 ?_ | refine yS 0 ?_ | refine yF ?_ | refine yB ?_ | (refine yA ?_; intro _) | refine yN ?_)
 refine sy_ov (ov_call rfl (fun w _ => rq_on g x w hx h0)) rfl rfl ?_
 repeat (first | refine yK ?_ | refine yP ?_ | (refine yR ?_ ?_ ?_; omega; omega) | refine yL 1 ?_ | refine yL 4 ?_ | refine yS 0 ?_ | refine yS 4 ?_ | refine yF ?_ | refine yT ?_ | refine yN ?_)
 rename_i b2 b4 b5 b6 b7
 refine sy_weaken (fun _ _ h => h) (sk (sd sr)) ?_
 refine sy_cells 0 (tC 7 t.2.1 0 0 0 nilS nilS zw) rfl rfl ?_
 refine sy_cells 3 (ptW g x.adv) rfl rfl ?_
 simp only [tC, nilS, List.set_cons_zero, List.set_cons_succ]
 refine sy_frame [(2, ptr b2), (4, ptr b4), (5, ptr b5), (7, ptr b7), (150, .agg ⟨ptW g x.adv⟩), (152, .int .i64 (24 - (n : Int)))] ⟨zz, zz, zz, zz, zz, ⟨_, rfl, by rw [hd1]⟩, trivial⟩ ?_
 refine sy_callN rfl rfl (fun w hw => rq_parts g _ w n hk false qa.ok (by omega) ((hst.at hw).on qa.on)) ?_
 rintro _ _ ⟨⟨zs, pz, cz⟩, rfl, hz, rfl⟩
 simp only [prtsRow, cX]
 simp only at hz
 refine sy_typP 7 t.2.1 0 0 0 zw ?_
 repeat (first | refine yK ?_ | refine yP ?_ | refine yS 1 ?_ | refine yS 4 ?_ | refine yF ?_)
 refine sy_cells 1 (tC 7 t.2.1 0 0 0 nilS (.slice pz zs.length cz) zw) rfl rfl ?_
 simp only [tC, nilS, List.set_cons_zero, List.set_cons_succ]
 refine sy_drawE _ 3 [(0, false), (1, false), (2, true)] (by kernel_rfl) rfl ((sd (sk (sd (sd (sk nl)))))) ?_
 repeat (first | refine dre_rd (fun _ _ => ov_ld 0 rfl rfl rfl) rfl ?_ | refine dre_rd (fun _ _ => ov_ld 1 rfl rfl rfl) rfl ?_ | (refine dre_ef rfl ?_; refine yS 3 ?_; refine dre_ek (by repeat first | exact sr | apply sk | apply sd) ?_) | refine dre_end ?_)
 refine sy_cells 3 (tC 7 t.2.1 0 0 0 nilS (.slice pz zs.length cz) zw) rfl (upd0 _ _ rfl) ?_
 repeat (first | refine yK ?_ | refine yS 2 ?_ | refine sy_rt ?_)
 exact ret_ccw 3 2 rfl rfl rfl rfl rfl rfl rfl rfl rfl fun w' hw' => ⟨_, _, ⟨(.mk 7 t.2.1 0 0 0 ws0 pz cz zs zw), rfl, by simp only [plT]; rw [hz]; rfl, rfl⟩, rfl, hw'.weaken (sk nl)⟩
set_option maxRecDepth 20000 in
set_option maxHeartbeats 8000000 in
theorem rq_kind_union (n : Nat) (hn : n < 24) (hk : KdN n) (hx : x.Ok) (hl : x.l.length ≤ 65537) (hT : TkAt g x w) (he : x.e = 0) (h1 : (hdT x.l).1 = 1) (c : (hdT x.l).2.2.2.1 = wUnion) : Calls Tryz.prog 29 #[.agg ⟨ptW g x⟩, .int .i64 (24 - ((n + 1 : Nat) : Int))] w (PostN w (TyN g (qbod (qknd n) wUnion (hdT x.l).2.1 x.adv).2)) := by
 have hst : St (fun _ => False) w (fun w => TkAt g x w) := St.start (TkAt.bl g x) hT
 obtain ⟨t, ht, hh⟩ := hx.hd
 have hne := hx.ne
 have h0 : (hdT x.l).1 ≠ 0 := by rw [h1]; decide
 rw [hh] at h1 c ⊢
 have qa := QA.advK hx h0
 have qal := qa.len
 have q1 := qa.trans (QA.must qa.ok [40])
 have q1l := q1.len
 have n0 : t.2.2.2.1 ≠ wBool := by rw [c]; decide
 have n1 : t.2.2.2.1 ≠ wInt := by rw [c]; decide
 have n2 : t.2.2.2.1 ≠ wText := by rw [c]; decide
 have n3 : t.2.2.2.1 ≠ wEnum := by rw [c]; decide
 have n4 : t.2.2.2.1 ≠ wList := by rw [c]; decide
 have n5 : t.2.2.2.1 ≠ wOpt := by rw [c]; decide
 have n6 : t.2.2.2.1 ≠ wRecord := by rw [c]; decide
 have hq : qbod (qknd n) wUnion t.2.1 x.adv = (true, .mk 8 t.2.1 0 0 0 [] (qprts (qknd n) true x.adv).1 zw, (qprts (qknd n) true x.adv).2) := by
  unfold qbod; rw [if_neg (by decide), if_neg (by decide), if_neg (by decide), if_neg (by decide), if_neg (by decide), if_neg (by decide), if_neg (by decide), if_neg (by decide), if_pos rfl]
 rw [hq]
 have hd1 : (24 : Int) - ((n + 1 : Nat) : Int) + 1 = 24 - (n : Int) := by omega
 refine sy_enter rfl rfl ?_
 simp only [initFr]
 repeat (first | refine yK ?_ | refine yL 2 ?_ | (refine yX ?_; intro _) | (refine yA ?_; intro _))
 refine sy_ov (ov_call rfl (fun w _ => rq_fine g x w true (by simp [he]))) rfl rfl ?_
 repeat (first | refine yK ?_ | refine yP ?_ | refine yL 2 ?_ | refine yF ?_ | (refine yD ?_ ?_ ?_; omega; omega) | refine yN ?_)
 refine sy_ov (ov_loadxa (vs := tokV t) rfl rfl rfl (fun w hw j u hj => tk_at (hst.at hw) ht j hj)) rfl rfl ?_
 repeat (first | refine yK ?_ | refine yP ?_ | refine yL 0 ?_ | refine yL 1 ?_ | refine yL 4 ?_ | refine yS 0 ?_ | refine yF ?_ | refine yB ?_ | (refine yA ?_; intro _) | refine yN ?_)
 refine sy_ov (ov_call rfl (fun w _ => rq_on g x w hx h0)) rfl rfl ?_
 repeat (first | refine yK ?_ | refine yP ?_ | (refine yR ?_ ?_ ?_; omega; omega) | refine yL 1 ?_ | refine yL 4 ?_ | refine yS 0 ?_ | refine yS 4 ?_ | refine yF ?_ | refine yT ?_ | refine yN ?_)
 rename_i b2 b4 b5 b6 b7
 refine sy_weaken (fun _ _ h => h) (sk (sd sr)) ?_
 refine sy_cells 0 (tC 8 t.2.1 0 0 0 nilS nilS zw) rfl rfl ?_
 refine sy_cells 3 (ptW g x.adv) rfl rfl ?_
 simp only [tC, nilS, List.set_cons_zero, List.set_cons_succ]
 refine sy_frame [(2, ptr b2), (4, ptr b4), (5, ptr b5), (7, ptr b7), (161, .agg ⟨ptW g x.adv⟩), (163, .int .i64 (24 - (n : Int)))] ⟨zz, zz, zz, zz, zz, ⟨_, rfl, by rw [hd1]⟩, trivial⟩ ?_
 refine sy_callN rfl rfl (fun w hw => rq_parts g _ w n hk true qa.ok (by omega) ((hst.at hw).on qa.on)) ?_
 rintro _ _ ⟨⟨zs, pz, cz⟩, rfl, hz, rfl⟩
 simp only [prtsRow, cX]
 simp only at hz
 refine sy_typP 8 t.2.1 0 0 0 zw ?_
 repeat (first | refine yK ?_ | refine yP ?_ | refine yS 1 ?_ | refine yS 4 ?_ | refine yF ?_)
 refine sy_cells 1 (tC 8 t.2.1 0 0 0 nilS (.slice pz zs.length cz) zw) rfl rfl ?_
 simp only [tC, nilS, List.set_cons_zero, List.set_cons_succ]
 refine sy_drawE _ 3 [(0, false), (1, false), (2, true)] (by kernel_rfl) rfl ((sd (sk (sd (sd (sk nl)))))) ?_
 repeat (first | refine dre_rd (fun _ _ => ov_ld 0 rfl rfl rfl) rfl ?_ | refine dre_rd (fun _ _ => ov_ld 1 rfl rfl rfl) rfl ?_ | (refine dre_ef rfl ?_; refine yS 3 ?_; refine dre_ek (by repeat first | exact sr | apply sk | apply sd) ?_) | refine dre_end ?_)
 refine sy_cells 3 (tC 8 t.2.1 0 0 0 nilS (.slice pz zs.length cz) zw) rfl (upd0 _ _ rfl) ?_
 repeat (first | refine yK ?_ | refine yS 2 ?_ | refine sy_rt ?_)
 exact ret_ccw 3 2 rfl rfl rfl rfl rfl rfl rfl rfl rfl fun w' hw' => ⟨_, _, ⟨(.mk 8 t.2.1 0 0 0 ws0 pz cz zs zw), rfl, by simp only [plT]; rw [hz]; rfl, rfl⟩, rfl, hw'.weaken (sk nl)⟩
set_option maxRecDepth 20000 in
set_option maxHeartbeats 8000000 in
theorem rq_kind_ref (n : Nat) (hn : n < 24) (hx : x.Ok) (hl : x.l.length ≤ 65537) (hT : TkAt g x w) (he : x.e = 0) (h1 : (hdT x.l).1 = 1) (c : (hdT x.l).2.2.2.1 = wRef) : Calls Tryz.prog 29 #[.agg ⟨ptW g x⟩, .int .i64 (24 - ((n + 1 : Nat) : Int))] w (PostN w (TyN g (qbod (qknd n) wRef (hdT x.l).2.1 x.adv).2)) := by
 have hst : St (fun _ => False) w (fun w => TkAt g x w) := St.start (TkAt.bl g x) hT
 obtain ⟨t, ht, hh⟩ := hx.hd
 have hne := hx.ne
 have h0 : (hdT x.l).1 ≠ 0 := by rw [h1]; decide
 rw [hh] at h1 c ⊢
 have qa := QA.advK hx h0
 have qal := qa.len
 have q1 := qa.trans (QA.must qa.ok [40])
 have q1l := q1.len
 have n0 : t.2.2.2.1 ≠ wBool := by rw [c]; decide
 have n1 : t.2.2.2.1 ≠ wInt := by rw [c]; decide
 have n2 : t.2.2.2.1 ≠ wText := by rw [c]; decide
 have n3 : t.2.2.2.1 ≠ wEnum := by rw [c]; decide
 have n4 : t.2.2.2.1 ≠ wList := by rw [c]; decide
 have n5 : t.2.2.2.1 ≠ wOpt := by rw [c]; decide
 have n6 : t.2.2.2.1 ≠ wRecord := by rw [c]; decide
 have n7 : t.2.2.2.1 ≠ wUnion := by rw [c]; decide
 have hq : qbod (qknd n) wRef t.2.1 x.adv = (true, .mk 9 t.2.1 0 0 0 [] [] (qW (x.adv.must [40])), ((x.adv.must [40]).any 1).must [41]) := by
  unfold qbod; rw [if_neg (by decide), if_neg (by decide), if_neg (by decide), if_neg (by decide), if_neg (by decide), if_neg (by decide), if_pos rfl]
 rw [hq]
 have q2 := q1.trans (QA.any q1.ok (by decide : (1 : Int) ≠ 0))
 refine sy_enter rfl rfl ?_
 simp only [initFr]
 repeat (first | refine yK ?_ | refine yL 2 ?_ | (refine yX ?_; intro _) | (refine yA ?_; intro _))
 refine sy_ov (ov_call rfl (fun w _ => rq_fine g x w true (by simp [he]))) rfl rfl ?_
 repeat (first | refine yK ?_ | refine yP ?_ | refine yL 2 ?_ | refine yF ?_ | (refine yD ?_ ?_ ?_; omega; omega) | refine yN ?_)
 refine sy_ov (ov_loadxa (vs := tokV t) rfl rfl rfl (fun w hw j u hj => tk_at (hst.at hw) ht j hj)) rfl rfl ?_
 repeat (first | refine yK ?_ | refine yP ?_ | refine yL 0 ?_ | refine yL 1 ?_ | refine yL 4 ?_ | refine yS 0 ?_ | refine yF ?_ | refine yB ?_ | (refine yA ?_; intro _) | refine yN ?_)
 refine sy_ov (ov_call rfl (fun w _ => rq_on g x w hx h0)) rfl rfl ?_
 repeat (first | refine yK ?_ | refine yP ?_ | refine yL 1 ?_ | refine yL 4 ?_ | refine yS 0 ?_ | refine yS 4 ?_ | refine yF ?_ | refine yT ?_ | refine yN ?_)
 rename_i b2 b4 b5 b6 b7
 refine sy_weaken (fun _ _ h => h) (sk (sd sr)) ?_
 refine sy_cells 0 (tC 9 t.2.1 0 0 0 nilS nilS zw) rfl rfl ?_
 refine sy_cells 3 (ptW g x.adv) rfl rfl ?_
 simp only [tC, nilS, List.set_cons_zero, List.set_cons_succ]
 refine sy_frame [(1, .int .i64 (24 - ((n + 1 : Nat) : Int))), (2, ptr b2), (4, ptr b4), (5, ptr b5), (7, ptr b7), (172, .agg ⟨ptW g x.adv⟩)] ⟨zz, zz, zz, zz, zz, zz, trivial⟩ ?_
 refine sy_ov (ov_call rfl (fun w hw => rq_mark g _ w qa.ok ((hst.at hw).on qa.on) [40])) rfl rfl ?_
 skip
 refine sy_ov (ov_call rfl (fun w hw => rq_name g _ w q1.ok ((hst.at hw).on q1.on))) rfl rfl ?_
 repeat (first | refine yK ?_ | refine yP ?_ | refine yL 0 ?_ | refine yL 1 ?_ | refine yS 0 ?_ | refine yS 1 ?_ | refine yS 2 ?_ | refine yF ?_ | (refine yA ?_; intro _))
 refine sy_weaken (fun _ _ h => h) (sd (sd sr)) ?_
 refine sy_ov (ov_call rfl (fun w hw => rq_mark g _ w q2.ok ((hst.at hw).on q2.on) [41])) rfl rfl ?_
 refine sy_typN 9 t.2.1 0 0 0 (qW (x.adv.must [40])) ?_
 repeat (first | refine yK ?_ | refine yS 4 ?_)
 refine sy_cells 1 (tC 9 t.2.1 0 0 0 nilS nilS (qW (x.adv.must [40]))) rfl rfl ?_
 simp only [tC, nilS, List.set_cons_zero, List.set_cons_succ]
 refine sy_drawE _ 3 [(0, false), (1, false), (2, true)] (by kernel_rfl) rfl ((sd (sk (sd (sd (sk nl)))))) ?_
 repeat (first | refine dre_rd (fun _ _ => ov_ld 0 rfl rfl rfl) rfl ?_ | refine dre_rd (fun _ _ => ov_ld 1 rfl rfl rfl) rfl ?_ | (refine dre_ef rfl ?_; refine yS 3 ?_; refine dre_ek (by repeat first | exact sr | apply sk | apply sd) ?_) | refine dre_end ?_)
 refine sy_cells 3 (tC 9 t.2.1 0 0 0 nilS nilS (qW (x.adv.must [40]))) rfl (upd0 _ _ rfl) ?_
 repeat (first | refine yK ?_ | refine yS 2 ?_ | refine sy_rt ?_)
 exact ret_ccw 3 2 rfl rfl rfl rfl rfl rfl rfl rfl rfl fun w' hw' => ⟨_, _, ⟨(.mk 9 t.2.1 0 0 0 ws0 none 0 [] (qW (x.adv.must [40]))), rfl, by simp only [plT, plPs]; rfl, rfl⟩, rfl, hw'.weaken (sk nl)⟩
end
section
variable (g : Nat) (x : PS) (w : World)
set_option maxRecDepth 20000 in
set_option maxHeartbeats 8000000 in
theorem rq_kind_opt (n : Nat) (hn : n < 24) (hk : KdN n) (hx : x.Ok) (hl : x.l.length ≤ 65537) (hT : TkAt g x w) (he : x.e = 0) (h1 : (hdT x.l).1 = 1) (c : (hdT x.l).2.2.2.1 = wOpt) : Calls Tryz.prog 29 #[.agg ⟨ptW g x⟩, .int .i64 (24 - ((n + 1 : Nat) : Int))] w (PostN w (TyN g (qbod (qknd n) wOpt (hdT x.l).2.1 x.adv).2)) := by
 have hst : St (fun _ => False) w (fun w => TkAt g x w) := St.start (TkAt.bl g x) hT
 obtain ⟨t, ht, hh⟩ := hx.hd
 have hne := hx.ne
 have h0 : (hdT x.l).1 ≠ 0 := by rw [h1]; decide
 rw [hh] at h1 c ⊢
 have qa := QA.advK hx h0
 have q1 := qa.trans (QA.must qa.ok [40])
 have q1l := q1.len
 have hd1 : (24 : Int) - ((n + 1 : Nat) : Int) + 1 = 24 - (n : Int) := by omega
 have n0 : t.2.2.2.1 ≠ wBool := by rw [c]; decide
 have n1 : t.2.2.2.1 ≠ wInt := by rw [c]; decide
 have n2 : t.2.2.2.1 ≠ wText := by rw [c]; decide
 have n3 : t.2.2.2.1 ≠ wEnum := by rw [c]; decide
 have n4 : t.2.2.2.1 ≠ wList := by rw [c]; decide
 have hq : qbod (qknd n) wOpt t.2.1 x.adv = (true, .mk 6 t.2.1 0 0 0 [] [p0P (qknd n (x.adv.must [40])).1] zw, (qknd n (x.adv.must [40])).2.must [41]) := by
  unfold qbod; rw [if_neg (by decide), if_neg (by decide), if_neg (by decide), if_neg (by decide), if_neg (by decide), if_pos rfl]
 rw [hq]
 have q2 := q1.trans (QA.knd n _ q1.ok)
 refine sy_enter rfl rfl ?_
 simp only [initFr]
 repeat (first | refine yK ?_ | refine yL 2 ?_ | (refine yX ?_; intro _) | (refine yA ?_; intro _))
 refine sy_ov (ov_call rfl (fun w _ => rq_fine g x w true (by simp [he]))) rfl rfl ?_
 repeat (first | refine yK ?_ | refine yP ?_ | refine yL 2 ?_ | refine yF ?_ | (refine yD ?_ ?_ ?_; omega; omega) | refine yN ?_)
 refine sy_ov (ov_loadxa (vs := tokV t) rfl rfl rfl (fun w hw j u hj => tk_at (hst.at hw) ht j hj)) rfl rfl ?_
 repeat (first | refine yK ?_ | refine yP ?_ | refine yL 0 ?_ | refine yL 1 ?_ | refine yL 4 ?_ | refine yS 0 ?_ | refine yF ?_ | refine yB ?_ | (refine yA ?_; intro _) | refine yN ?_)
 refine sy_ov (ov_call rfl (fun w _ => rq_on g x w hx h0)) rfl rfl ?_
 repeat (first | refine yK ?_ | refine yP ?_ | refine yL 1 ?_ | refine yL 4 ?_ | refine yS 0 ?_ | refine yS 4 ?_ | refine yF ?_ | refine yT ?_ | refine yN ?_)
 rename_i b2 b4 b5 b6 b7
 refine sy_weaken (fun _ _ h => h) (sk (sd sr)) ?_
 refine sy_cells 0 (tC 6 t.2.1 0 0 0 nilS nilS zw) rfl rfl ?_
 refine sy_cells 3 (ptW g x.adv) rfl rfl ?_
 simp only [tC, nilS, List.set_cons_zero, List.set_cons_succ]
 refine sy_frame [(1, .int .i64 (24 - ((n + 1 : Nat) : Int))), (2, ptr b2), (4, ptr b4), (5, ptr b5), (7, ptr b7), (133, .agg ⟨ptW g x.adv⟩)] ⟨zz, zz, zz, zz, zz, zz, trivial⟩ ?_
 refine sy_ov (ov_call rfl (fun w hw => rq_mark g _ w qa.ok ((hst.at hw).on qa.on) [40])) rfl rfl ?_
 repeat (first | refine yP ?_ | (refine yR ?_ ?_ ?_; omega; omega))
 simp only [hd1]
 refine sy_callN rfl rfl (fun w hw => hk g _ w q1.ok (by omega) ((hst.at hw).on q1.on)) ?_
 rintro _ _ ⟨z, rfl, hz, rfl⟩
 obtain ⟨zk, za, zlo, zhi, zmo, zns, zpp, zcp, zparts, znm⟩ := z
 simp only [cX]
 repeat (first | refine yK ?_ | refine yP ?_ | refine yL 1 ?_ | refine yS 0 ?_ | refine yS 1 ?_ | refine yB ?_ | (refine yA ?_; intro _))
 refine sy_buildSlice rfl rfl rfl rfl rfl rfl rfl rfl ?_
 intro g2
 refine sy_cells 0 (prtC zw false ws0 0 0 0 0 ws0 (typV (TypA.mk zk za zlo zhi zmo zns zpp zcp zparts znm))) rfl (upd0 _ _ rfl) ?_
 refine sy_blkRow (n := 1) (size := 18) 0 rfl rfl (by decide) ?_
 rename_i b16 b17
 refine sy_order [3, 0, 4, 5, 6, 7, 1, 2] rfl rfl ?_
 simp only [oX]
 refine sy_part0 ?_
 refine sy_order [1, 0, 2, 3, 4, 5, 6, 7] rfl rfl ?_
 simp only [oX]
 refine sy_typP (pp := some ⟨g2, 0, none⟩) (cp := 1) (parts := [(PrtA.mk zw false ws0 0 0 0 0 ws0 (TypA.mk zk za zlo zhi zmo zns zpp zcp zparts znm))]) 6 t.2.1 0 0 0 zw ?_
 refine sy_frame [(2, ptr b2), (4, ptr b4), (5, ptr b5), (7, ptr b7), (17, ptr b17), (142, .slice (some ⟨g2, 0, none⟩) 1 1)] ⟨zz, zz, zz, zz, zz, zz, trivial⟩ ?_
 refine sy_order [0, 1, 5, 4, 2, 3, 6] rfl rfl ?_
 simp only [oX]
 repeat (first | refine yK ?_ | refine yL 2 ?_ | refine yS 1 ?_ | refine yF ?_)
 refine sy_ov (ov_call rfl (fun w hw => rq_mark g _ w q2.ok ((hst.at hw).on q2.on) [41])) rfl rfl ?_
 repeat (first | refine yK ?_ | refine yS 3 ?_)
 refine sy_order [0, 1, 4, 5, 3, 2, 6] rfl rfl ?_
 simp only [oX]
 refine sy_weaken (fun _ _ h => h) (sk (sk (sk (sk (sk nl))))) ?_
 refine sy_cells 1 (tC 6 t.2.1 0 0 0 nilS (.slice (some ⟨g2, 0, none⟩) 1 1) zw) rfl rfl ?_
 simp only [tC, nilS, List.set_cons_zero, List.set_cons_succ]
 refine sy_drawE _ 3 [(0, false), (1, false), (2, true)] (by kernel_rfl) rfl ((sd (sk (sd (sd (sk nl)))))) ?_
 repeat (first | refine dre_rd (fun _ _ => ov_ld 0 rfl rfl rfl) rfl ?_ | refine dre_rd (fun _ _ => ov_ld 1 rfl rfl rfl) rfl ?_ | (refine dre_ef rfl ?_; refine yS 3 ?_; refine dre_ek (by repeat first | exact sr | apply sk | apply sd) ?_) | refine dre_end ?_)
 refine sy_cells 3 (tC 6 t.2.1 0 0 0 nilS (.slice (some ⟨g2, 0, none⟩) 1 1) zw) rfl (upd0 _ _ rfl) ?_
 repeat (first | refine yK ?_ | refine yS 2 ?_ | refine sy_rt ?_)
 exact ret_ccw 3 2 rfl rfl rfl rfl rfl rfl rfl rfl rfl fun w' hw' => ⟨_, _, ⟨(.mk 6 t.2.1 0 0 0 ws0 (some ⟨g2, 0, none⟩) 1 [(PrtA.mk zw false ws0 0 0 0 0 ws0 (TypA.mk zk za zlo zhi zmo zns zpp zcp zparts znm))] zw), rfl, by simp only [plT, plPs, plP] at hz ⊢; rw [hz]; rfl, rfl⟩, rfl, hw'.weaken (sk nl)⟩
set_option maxRecDepth 20000 in
set_option maxHeartbeats 8000000 in
theorem rq_kind_list (n : Nat) (hn : n < 24) (hk : KdN n) (hx : x.Ok) (hl : x.l.length ≤ 65537) (hT : TkAt g x w) (he : x.e = 0) (h1 : (hdT x.l).1 = 1) (c : (hdT x.l).2.2.2.1 = wList) : Calls Tryz.prog 29 #[.agg ⟨ptW g x⟩, .int .i64 (24 - ((n + 1 : Nat) : Int))] w (PostN w (TyN g (qbod (qknd n) wList (hdT x.l).2.1 x.adv).2)) := by
 have hst : St (fun _ => False) w (fun w => TkAt g x w) := St.start (TkAt.bl g x) hT
 obtain ⟨t, ht, hh⟩ := hx.hd
 have hne := hx.ne
 have h0 : (hdT x.l).1 ≠ 0 := by rw [h1]; decide
 rw [hh] at h1 c ⊢
 have qa := QA.advK hx h0
 have q1 := qa.trans (QA.must qa.ok [40])
 have q1l := q1.len
 have hd1 : (24 : Int) - ((n + 1 : Nat) : Int) + 1 = 24 - (n : Int) := by omega
 have n0 : t.2.2.2.1 ≠ wBool := by rw [c]; decide
 have n1 : t.2.2.2.1 ≠ wInt := by rw [c]; decide
 have n2 : t.2.2.2.1 ≠ wText := by rw [c]; decide
 have n3 : t.2.2.2.1 ≠ wEnum := by rw [c]; decide
 have hq : qbod (qknd n) wList t.2.1 x.adv = (true, .mk 5 t.2.1 0 0 ((((qknd n (x.adv.must [40])).2.must [44]).tok 2).2.2.2.2) [] [p0P (qknd n (x.adv.must [40])).1] zw, (((qknd n (x.adv.must [40])).2.must [44]).any 2).must [41]) := by
  unfold qbod; rw [if_neg (by decide), if_neg (by decide), if_neg (by decide), if_neg (by decide), if_pos rfl]
 rw [hq]
 have q2 := q1.trans (QA.knd n _ q1.ok)
 have q3 := q2.trans (QA.must q2.ok [44])
 have q4 := q3.trans (QA.any q3.ok (by decide : (2 : Int) ≠ 0))
 refine sy_enter rfl rfl ?_
 simp only [initFr]
 repeat (first | refine yK ?_ | refine yL 2 ?_ | (refine yX ?_; intro _) | (refine yA ?_; intro _))
 refine sy_ov (ov_call rfl (fun w _ => rq_fine g x w true (by simp [he]))) rfl rfl ?_
 repeat (first | refine yK ?_ | refine yP ?_ | refine yL 2 ?_ | refine yF ?_ | (refine yD ?_ ?_ ?_; omega; omega) | refine yN ?_)
 refine sy_ov (ov_loadxa (vs := tokV t) rfl rfl rfl (fun w hw j u hj => tk_at (hst.at hw) ht j hj)) rfl rfl ?_
 repeat (first | refine yK ?_ | refine yP ?_ | refine yL 0 ?_ | refine yL 1 ?_ | refine yL 4 ?_ | refine yS 0 ?_ | refine yF ?_ | refine yB ?_ | (refine yA ?_; intro _) | refine yN ?_)
 refine sy_ov (ov_call rfl (fun w _ => rq_on g x w hx h0)) rfl rfl ?_
 repeat (first | refine yK ?_ | refine yP ?_ | refine yL 1 ?_ | refine yL 4 ?_ | refine yS 0 ?_ | refine yS 4 ?_ | refine yF ?_ | refine yT ?_ | refine yN ?_)
 rename_i b2 b4 b5 b6 b7
 refine sy_weaken (fun _ _ h => h) (sk (sd sr)) ?_
 refine sy_cells 0 (tC 5 t.2.1 0 0 0 nilS nilS zw) rfl rfl ?_
 refine sy_cells 3 (ptW g x.adv) rfl rfl ?_
 simp only [tC, nilS, List.set_cons_zero, List.set_cons_succ]
 refine sy_frame [(1, .int .i64 (24 - ((n + 1 : Nat) : Int))), (2, ptr b2), (4, ptr b4), (5, ptr b5), (7, ptr b7), (107, .agg ⟨ptW g x.adv⟩)] ⟨zz, zz, zz, zz, zz, zz, trivial⟩ ?_
 refine sy_ov (ov_call rfl (fun w hw => rq_mark g _ w qa.ok ((hst.at hw).on qa.on) [40])) rfl rfl ?_
 repeat (first | refine yP ?_ | (refine yR ?_ ?_ ?_; omega; omega))
 simp only [hd1]
 refine sy_callN rfl rfl (fun w hw => hk g _ w q1.ok (by omega) ((hst.at hw).on q1.on)) ?_
 rintro _ _ ⟨z, rfl, hz, rfl⟩
 obtain ⟨zk, za, zlo, zhi, zmo, zns, zpp, zcp, zparts, znm⟩ := z
 simp only [cX]
 repeat (first | refine yK ?_ | refine yP ?_ | refine yL 0 ?_ | refine yS 0 ?_ | refine yS 1 ?_ | (refine yA ?_; intro _))
 refine sy_ov (ov_call rfl (fun w hw => rq_mark g _ w q2.ok ((hst.at hw).on q2.on) [44])) rfl rfl ?_
 skip
 refine sy_ov (ov_call rfl (fun w hw => rq_any g _ w q3.ok ((hst.at hw).on q3.on) 2 (by decide))) rfl rfl ?_
 repeat (first | refine yK ?_ | refine yP ?_ | refine yL 3 ?_ | refine yS 0 ?_ | refine yS 1 ?_ | refine yB ?_ | (refine yA ?_; intro _))
 refine sy_buildSlice rfl rfl rfl rfl rfl rfl rfl rfl ?_
 intro g2
 refine sy_cells 0 (prtC zw false ws0 0 0 0 0 ws0 (typV (TypA.mk zk za zlo zhi zmo zns zpp zcp zparts znm))) rfl (upd0 _ _ rfl) ?_
 refine sy_blkRow (n := 1) (size := 18) 0 rfl rfl (by decide) ?_
 rename_i b12 b13 b14 b15
 refine sy_order [5, 0, 6, 1, 2, 7, 8, 9, 3, 4] rfl rfl ?_
 simp only [oX]
 refine sy_part0 ?_
 refine sy_order [1, 0, 2, 3, 4, 5, 6, 7, 8, 9] rfl rfl ?_
 simp only [oX]
 refine sy_typP (pp := some ⟨g2, 0, none⟩) (cp := 1) (parts := [(PrtA.mk zw false ws0 0 0 0 0 ws0 (TypA.mk zk za zlo zhi zmo zns zpp zcp zparts znm))]) 5 t.2.1 0 0 ((((qknd n (x.adv.must [40])).2.must [44]).tok 2).2.2.2.2) zw ?_
 refine sy_frame [(2, ptr b2), (4, ptr b4), (5, ptr b5), (7, ptr b7), (14, ptr b14), (15, ptr b15), (122, .slice (some ⟨g2, 0, none⟩) 1 1)] ⟨zz, zz, zz, zz, zz, zz, zz, trivial⟩ ?_
 repeat (first | refine yK ?_ | refine yL 2 ?_ | refine yL 3 ?_ | refine yS 1 ?_ | refine yF ?_)
 refine sy_ov (ov_call rfl (fun w hw => rq_mark g _ w q4.ok ((hst.at hw).on q4.on) [41])) rfl rfl ?_
 refine sy_order [0, 1, 4, 5, 6, 2, 3, 7, 8] rfl rfl ?_
 simp only [oX]
 refine sy_weaken (fun _ _ h => h) (sk (sk (sk (sk (sk nl))))) ?_
 repeat (first | refine yK ?_ | refine yS 4 ?_)
 refine sy_cells 1 (tC 5 t.2.1 0 0 ((((qknd n (x.adv.must [40])).2.must [44]).tok 2).2.2.2.2) nilS (.slice (some ⟨g2, 0, none⟩) 1 1) zw) rfl rfl ?_
 simp only [tC, nilS, List.set_cons_zero, List.set_cons_succ]
 refine sy_drawE _ 3 [(0, false), (1, false), (2, true)] (by kernel_rfl) rfl ((sd (sk (sd (sd (sk nl)))))) ?_
 repeat (first | refine dre_rd (fun _ _ => ov_ld 0 rfl rfl rfl) rfl ?_ | refine dre_rd (fun _ _ => ov_ld 1 rfl rfl rfl) rfl ?_ | (refine dre_ef rfl ?_; refine yS 3 ?_; refine dre_ek (by repeat first | exact sr | apply sk | apply sd) ?_) | refine dre_end ?_)
 refine sy_cells 3 (tC 5 t.2.1 0 0 ((((qknd n (x.adv.must [40])).2.must [44]).tok 2).2.2.2.2) nilS (.slice (some ⟨g2, 0, none⟩) 1 1) zw) rfl (upd0 _ _ rfl) ?_
 repeat (first | refine yK ?_ | refine yS 2 ?_ | refine sy_rt ?_)
 exact ret_ccw 3 2 rfl rfl rfl rfl rfl rfl rfl rfl rfl fun w' hw' => ⟨_, _, ⟨(.mk 5 t.2.1 0 0 ((((qknd n (x.adv.must [40])).2.must [44]).tok 2).2.2.2.2) ws0 (some ⟨g2, 0, none⟩) 1 [(PrtA.mk zw false ws0 0 0 0 0 ws0 (TypA.mk zk za zlo zhi zmo zns zpp zcp zparts znm))] zw), rfl, by simp only [plT, plPs, plP] at hz ⊢; rw [hz]; rfl, rfl⟩, rfl, hw'.weaken (sk nl)⟩
set_option maxRecDepth 20000 in
set_option maxHeartbeats 8000000 in
theorem rq_kind_no (n : Nat) (hn : n < 24) (hx : x.Ok) (hl : x.l.length ≤ 65537) (hT : TkAt g x w) (he : x.e = 0) (h1 : (hdT x.l).1 = 1) (hno : ∀ y ∈ [wBool, wInt, wText, wEnum, wList, wOpt, wRef, wRecord, wUnion], (hdT x.l).2.2.2.1 ≠ y) : Calls Tryz.prog 29 #[.agg ⟨ptW g x⟩, .int .i64 (24 - ((n + 1 : Nat) : Int))] w (PostN w (TyN g (atP (hdT x.l).2.1, ⟨x.adv.off, x.adv.l, x.adv.c, x.adv.m, 9, (hdT x.l).2.1⟩))) := by
 have hst : St (fun _ => False) w (fun w => TkAt g x w) := St.start (TkAt.bl g x) hT
 obtain ⟨t, ht, hh⟩ := hx.hd
 have hne := hx.ne
 have h0 : (hdT x.l).1 ≠ 0 := by rw [h1]; decide
 rw [hh] at h1 hno ⊢
 have n0 : t.2.2.2.1 ≠ wBool := hno _ (by simp)
 have n1 : t.2.2.2.1 ≠ wInt := hno _ (by simp)
 have n2 : t.2.2.2.1 ≠ wText := hno _ (by simp)
 have n3 : t.2.2.2.1 ≠ wEnum := hno _ (by simp)
 have n4 : t.2.2.2.1 ≠ wList := hno _ (by simp)
 have n5 : t.2.2.2.1 ≠ wOpt := hno _ (by simp)
 have n6 : t.2.2.2.1 ≠ wRef := hno _ (by simp)
 have n7 : t.2.2.2.1 ≠ wRecord := hno _ (by simp)
 have n8 : t.2.2.2.1 ≠ wUnion := hno _ (by simp)
 refine sy_enter rfl rfl ?_
 simp only [initFr]
 repeat (first | refine yK ?_ | refine yL 2 ?_ | (refine yX ?_; intro _) | (refine yA ?_; intro _))
 refine sy_ov (ov_call rfl (fun w _ => rq_fine g x w true (by simp [he]))) rfl rfl ?_
 repeat (first | refine yK ?_ | refine yP ?_ | refine yL 2 ?_ | refine yF ?_ | (refine yD ?_ ?_ ?_; omega; omega) | refine yN ?_)
 refine sy_ov (ov_loadxa (vs := tokV t) rfl rfl rfl (fun w hw j u hj => tk_at (hst.at hw) ht j hj)) rfl rfl ?_
 repeat (first | refine yK ?_ | refine yP ?_ | refine yL 0 ?_ | refine yL 1 ?_ | refine yL 4 ?_ | refine yS 0 ?_ | refine yF ?_ | refine yB ?_ | (refine yA ?_; intro _) | refine yN ?_)
 refine sy_ov (ov_call rfl (fun w _ => rq_on g x w hx h0)) rfl rfl ?_
 repeat (first | refine yK ?_ | refine yP ?_ | refine yL 1 ?_ | refine yS 4 ?_ | refine yF ?_ | refine yN ?_)
 refine sy_typN 0 t.2.1 0 0 0 zw ?_
 refine sy_drawE _ 8 [(0, false), (1, false), (2, false), (3, false), (4, false), (5, false), (6, false), (7, true)] (by kernel_rfl) rfl ((sd (sk (sk (sd (sd (sk nl))))))) ?_
 repeat (first | refine dre_rd (fun _ _ => ov_ld 0 rfl rfl rfl) rfl ?_ | refine dre_rd (fun _ _ => ov_ld 1 rfl rfl rfl) rfl ?_ | refine dre_rd (fun _ _ => ov_ld 2 rfl rfl rfl) rfl ?_ | refine dre_rd (fun _ _ => ov_fieldAddr rfl rfl rfl) rfl ?_ | refine dre_rd (fun _ _ => ov_build rfl rfl rfl) rfl ?_ | (refine dre_ef rfl ?_; refine yS 4 ?_; refine dre_ek (by repeat first | exact sr | apply sk | apply sd) ?_) | refine dre_end ?_)
 refine sy_cells 4 (tC 0 t.2.1 0 0 0 nilS nilS zw) rfl (upd0 _ _ rfl) ?_
 repeat (first | refine yK ?_ | refine yS 3 ?_ | refine sy_rt ?_)
 exact ret_ccw 4 3 rfl rfl rfl rfl rfl rfl rfl rfl rfl fun w' hw' => ⟨_, _, ⟨.mk 0 t.2.1 0 0 0 ws0 none 0 [] zw, rfl, by simp only [plT, plPs]; rfl, rfl⟩, rfl, hw'.weaken (sk nl)⟩
end
theorem qbod_yes (kd : PS → TypP × PS) (w : List UInt8) (a : Int) (x : PS) (h : w ∈ [wBool, wInt, wText, wEnum, wList, wOpt, wRef, wRecord, wUnion]) : (qbod kd w a x).1 = true := by
 unfold qbod
 simp only [List.mem_cons, List.mem_nil_iff, or_false] at h
 rcases h with h | h | h | h | h | h | h | h | h <;> subst h <;> rfl
theorem rq_kind : ∀ n, n ≤ 24 → KdN n
 | 0, _ => fun g x w hx hl hT => by
  by_cases he : x.e = 0
  · have hq : qknd 0 x = (atP (hdT x.l).2.1, x.failH 6) := by unfold qknd; rw [if_neg (fun h => h he)]
    rw [hq]; exact rq_kind_deep g x w hx hT he
  · have hq : qknd 0 x = (ztP, x) := by unfold qknd; rw [if_pos he]
    rw [hq]; exact rq_kind_bad g x w 0 he _
 | n + 1, hn => fun g x w hx hl hT => by
  have hk := rq_kind n (by omega)
  by_cases he : x.e = 0
  · have hq : qknd (n + 1) x = qkndB (qknd n) x := by
     show (if x.e ≠ 0 then (ztP, x) else qkndB (qknd n) x) = _
     rw [if_neg (fun h => h he)]
    rw [hq]
    by_cases h1 : (hdT x.l).1 = 1
    · by_cases hw : (hdT x.l).2.2.2.1 ∈ [wBool, wInt, wText, wEnum, wList, wOpt, wRef, wRecord, wUnion]
      · have hy := qbod_yes (qknd n) _ (hdT x.l).2.1 x.adv hw
        have hb : qkndB (qknd n) x = (qbod (qknd n) (hdT x.l).2.2.2.1 (hdT x.l).2.1 x.adv).2 := by
         unfold qkndB; rw [if_pos h1]; simp only [hy, if_true]
        rw [hb]
        simp only [List.mem_cons, List.mem_nil_iff, or_false] at hw
        rcases hw with c | c | c | c | c | c | c | c | c
        · rw [c]; exact rq_kind_bool g x w n (by omega) hx hl hT he h1 c
        · rw [c]; exact rq_kind_int g x w n (by omega) hx hl hT he h1 c
        · rw [c]; exact rq_kind_text g x w n (by omega) hx hl hT he h1 c
        · rw [c]; exact rq_kind_enum g x w n (by omega) hx hl hT he h1 c
        · rw [c]; exact rq_kind_list g x w n (by omega) hk hx hl hT he h1 c
        · rw [c]; exact rq_kind_opt g x w n (by omega) hk hx hl hT he h1 c
        · rw [c]; exact rq_kind_ref g x w n (by omega) hx hl hT he h1 c
        · rw [c]; exact rq_kind_record g x w n (by omega) hk hx hl hT he h1 c
        · rw [c]; exact rq_kind_union g x w n (by omega) hk hx hl hT he h1 c
      · have hno : ∀ y ∈ [wBool, wInt, wText, wEnum, wList, wOpt, wRef, wRecord, wUnion], (hdT x.l).2.2.2.1 ≠ y := fun y hy h => hw (by rw [h]; exact hy)
        have hb : qbod (qknd n) (hdT x.l).2.2.2.1 (hdT x.l).2.1 x.adv = (false, atP (hdT x.l).2.1, x.adv) := by
         unfold qbod
         rw [if_neg (hno _ (by simp)), if_neg (hno _ (by simp)), if_neg (hno _ (by simp)), if_neg (hno _ (by simp)), if_neg (hno _ (by simp)), if_neg (hno _ (by simp)), if_neg (hno _ (by simp)), if_neg (hno _ (by simp)), if_neg (hno _ (by simp))]
        have hb2 : qkndB (qknd n) x = (atP (hdT x.l).2.1, ⟨x.adv.off, x.adv.l, x.adv.c, x.adv.m, 9, (hdT x.l).2.1⟩) := by
         unfold qkndB; rw [if_pos h1, hb]; rfl
        rw [hb2]; exact rq_kind_no g x w n (by omega) hx hl hT he h1 hno
    · have hb : qkndB (qknd n) x = (atP (hdT x.l).2.1, x.odd) := by unfold qkndB; rw [if_neg h1]
      rw [hb]; exact rq_kind_odd g x w n (by omega) hx hT he h1
  · have hq : qknd (n + 1) x = (ztP, x) := by
     show (if x.e ≠ 0 then (ztP, x) else qkndB (qknd n) x) = _
     rw [if_pos he]
    rw [hq]; exact rq_kind_bad g x w (n + 1) he _
end Go.Proofs.YtldjakeigjngoaaGreat