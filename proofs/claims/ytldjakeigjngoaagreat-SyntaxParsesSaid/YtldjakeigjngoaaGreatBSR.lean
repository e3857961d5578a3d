/- BSR: texts of this proof, joined by program: RSyn1, RSyn2, RSyn3, RSyn4, RSyn5. -/
import Derived.Test.YtldjakeigjngoaaGreatBSQ
import Derived.Test.YtldjakeigjngoaaGreatBRP
import Derived.Test.YtldjakeigjngoaaGreatBSS
import Derived.Test.YtldjakeigjngoaaGreatBRR
set_option linter.unusedVariables false
set_option linter.unusedSimpArgs false
namespace Go.Proofs.YtldjakeigjngoaaGreat
open Go.RowKit Bf
abbrev ptW (g : Nat) (x : PS) : List Value := [.slice (some ⟨g, x.off, none⟩) x.l.length x.c, .int .i64 x.e, .int .i64 x.a]
def PS.isK (x : PS) (k : Int) (t : List UInt8) : Bool := decide ((hdT x.l).1 = k) && decide ((hdT x.l).2.2.2.1 = t)
section
variable (g : Nat) (x : PS) (w : World)
set_option maxRecDepth 20000 in
theorem rq_fine (b : Bool) (hb : decide (x.e = 0) = b) : Calls Tryz.prog 31 #[.agg ⟨ptW g x⟩] w fun u w' => u = .returned (.bool b) ∧ Below w.heap.size w w' := by
 subst hb
 refine sy_enter rfl rfl ?_
 simp only [initFr]
 repeat (first | refine yK ?_ | refine yP ?_ | refine yL 0 ?_ | refine yF ?_ | (refine yX ?_; intro _) | refine sy_rt ?_)
 exact ret1 rfl rfl rfl
set_option maxRecDepth 20000 in
theorem rq_is (hx : x.Ok) (hT : TkAt g x w) (k : Int) (m : List UInt8) : Calls Tryz.prog 67 #[.agg ⟨ptW g x⟩, .int .i64 k, S m] w fun u w' => u = .returned (.bool (x.isK k m)) ∧ Below w.heap.size w w' := by
 have hst : St (fun _ => False) w (fun w => TkAt g x w) := St.start (TkAt.bl g x) hT
 obtain ⟨t, ht, hh⟩ := hx.hd
 have hne := hx.ne
 by_cases h1 : t.1 = k
 · have hb : x.isK k m = decide (t.2.2.2.1 = m) := by unfold PS.isK; rw [hh]; simp [h1]
   rw [hb]
   refine sy_enter rfl rfl ?_
   simp only [initFr]
   repeat (first | refine yK ?_ | refine yP ?_ | refine yL 0 ?_ | refine yF ?_ | (refine yD ?_ ?_ ?_; omega; omega) | (refine yX ?_; intro _))
   refine sy_ov (ov_loadx (v := .int .i64 t.1) rfl rfl (fun w hw => tk_at (hst.at hw) ht 0 rfl)) rfl rfl ?_
   repeat (first | refine yP ?_ | refine yG ?_ | refine yL 0 ?_ | refine yF ?_ | (refine yD ?_ ?_ ?_; omega; omega))
   refine sy_ov (ov_loadx (v := S t.2.2.2.1) rfl rfl (fun w hw => tk_at (hst.at hw) ht 3 rfl)) rfl rfl ?_
   repeat (first | refine yK ?_ | refine yP ?_ | refine yG ?_ | refine yM ?_ | refine sy_rt ?_)
   exact ret1 rfl rfl rfl
 · have hb : x.isK k m = false := by unfold PS.isK; rw [hh]; simp [h1]
   rw [hb]
   refine sy_enter rfl rfl ?_
   simp only [initFr]
   repeat (first | refine yK ?_ | refine yP ?_ | refine yL 0 ?_ | refine yF ?_ | (refine yD ?_ ?_ ?_; omega; omega) | (refine yX ?_; intro _))
   refine sy_ov (ov_loadx (v := .int .i64 t.1) rfl rfl (fun w hw => tk_at (hst.at hw) ht 0 rfl)) rfl rfl ?_
   repeat (first | refine yK ?_ | refine yP ?_ | refine yH ?_ | refine sy_ov (ov_pick rfl rfl rfl) rfl rfl ?_ | refine sy_rt ?_)
   exact ret1 rfl rfl rfl
set_option maxRecDepth 20000 in
theorem rq_wrong (hx : x.Ok) (hT : TkAt g x w) : Calls Tryz.prog 59 #[.agg ⟨ptW g x⟩] w fun u w' => u = .returned (.agg ⟨ptW g x.odd⟩) ∧ Below w.heap.size w w' := by
 have hst : St (fun _ => False) w (fun w => TkAt g x w) := St.start (TkAt.bl g x) hT
 obtain ⟨t, ht, hh⟩ := hx.hd
 have hne := hx.ne
 by_cases he : x.e = 0
 · by_cases h0 : t.1 = 0
   · rw [show x.odd = ⟨x.off, x.l, x.c, x.m, 5, t.2.1⟩ by unfold PS.odd PS.fail oddE; rw [if_pos he, hh, if_pos h0]]
     refine sy_enter rfl rfl ?_
     simp only [initFr]
     repeat (first | refine yK ?_ | refine yP ?_ | refine yL 1 ?_ | refine yF ?_ | (refine yD ?_ ?_ ?_; omega; omega) | (refine yX ?_; intro _) | (refine yA ?_; intro _) | refine yN ?_)
     refine sy_ov (ov_loadx (v := .int .i64 t.1) rfl rfl (fun w hw => tk_at (hst.at hw) ht 0 rfl)) rfl rfl ?_
     repeat (first | refine yK ?_ | refine yP ?_ | refine yT ?_)
     refine sy_draw 9 (by kernel_rfl) ?_
     repeat (first | refine dr_op (ov_p rfl) rfl rfl ?_ | refine dr_op (ov_ld 1 rfl rfl rfl) rfl rfl ?_ | refine dr_op (ov_fieldAddr rfl rfl rfl) rfl rfl ?_ | (refine dr_op (ov_indexAddr rfl rfl ?_ ?_) rfl rfl ?_; omega; omega))
     refine dr_op (ov_loadx (v := .int .i64 t.2.1) rfl rfl (fun w hw => tk_at (hst.at hw) ht 1 rfl)) rfl rfl ?_
     repeat (first | refine dr_op (ov_build rfl rfl rfl) rfl rfl ?_ | refine dr_end ?_)
     repeat (first | refine yK ?_ | refine yS 0 ?_ | refine yB ?_ | refine sy_rt ?_)
     exact ret1c 0 rfl rfl rfl rfl rfl rfl
   · rw [show x.odd = ⟨x.off, x.l, x.c, x.m, 4, t.2.1⟩ by unfold PS.odd PS.fail oddE; rw [if_pos he, hh, if_neg h0]]
     refine sy_enter rfl rfl ?_
     simp only [initFr]
     repeat (first | refine yK ?_ | refine yP ?_ | refine yL 1 ?_ | refine yF ?_ | (refine yD ?_ ?_ ?_; omega; omega) | (refine yX ?_; intro _) | (refine yA ?_; intro _) | refine yN ?_)
     refine sy_ov (ov_loadx (v := .int .i64 t.1) rfl rfl (fun w hw => tk_at (hst.at hw) ht 0 rfl)) rfl rfl ?_
     repeat (first | refine yK ?_ | refine yP ?_ | refine yN ?_)
     refine sy_draw 9 (by kernel_rfl) ?_
     repeat (first | refine dr_op (ov_p rfl) rfl rfl ?_ | refine dr_op (ov_ld 1 rfl rfl rfl) rfl rfl ?_ | refine dr_op (ov_fieldAddr rfl rfl rfl) rfl rfl ?_ | (refine dr_op (ov_indexAddr rfl rfl ?_ ?_) rfl rfl ?_; omega; omega))
     refine dr_op (ov_loadx (v := .int .i64 t.2.1) rfl rfl (fun w hw => tk_at (hst.at hw) ht 1 rfl)) rfl rfl ?_
     repeat (first | refine dr_op (ov_build rfl rfl rfl) rfl rfl ?_ | refine dr_end ?_)
     repeat (first | refine yK ?_ | refine yS 0 ?_ | refine yB ?_ | refine sy_rt ?_)
     exact ret1c 0 rfl rfl rfl rfl rfl rfl
 · rw [odd_same he]
   refine sy_enter rfl rfl ?_
   simp only [initFr]
   repeat (first | refine yK ?_ | refine yP ?_ | refine yL 1 ?_ | refine yS 0 ?_ | refine yF ?_ | (refine yX ?_; intro _) | (refine yA ?_; intro _) | refine yT ?_ | refine sy_rt ?_)
   exact ret1c 0 rfl rfl rfl rfl rfl rfl
set_option maxRecDepth 20000 in
theorem rq_on (hx : x.Ok) (h0 : (hdT x.l).1 ≠ 0) : Calls Tryz.prog 60 #[.agg ⟨ptW g x⟩] w fun u w' => u = .returned (.agg ⟨ptW g x.adv⟩) ∧ Below w.heap.size w w' := by
 have hmo := hx.more h0
 have hlc := hx.le
 have hv : ptW g x.adv = [.slice (some ⟨g, x.off + (1 : Int).toNat * 5, none⟩) (x.l.length - (1 : Int).toNat) (x.c - (1 : Int).toNat), .int .i64 x.e, .int .i64 x.a] := by
  simp [ptW, PS.adv]
 rw [hv]
 refine sy_enter rfl rfl ?_
 simp only [initFr]
 repeat (first | refine yK ?_ | (refine yX ?_; intro _) | (refine yA ?_; intro _))
 refine sy_draw 5 (by kernel_rfl) ?_
 repeat (first | refine dr_op (ov_ld 1 rfl rfl rfl) rfl rfl ?_ | refine dr_op (ov_fieldAddr rfl rfl rfl) rfl rfl ?_)
 refine dr_op (ov_slLo rfl rfl (by decide) ?_ ?_) rfl rfl ?_
 focus omega
 focus omega
 repeat (first | refine dr_op (ov_ld 1 rfl rfl rfl) rfl rfl ?_ | refine dr_op (ov_fieldAddr rfl rfl rfl) rfl rfl ?_ | refine dr_end ?_)
 repeat (first | refine yK ?_ | refine yS 0 ?_ | refine yB ?_ | refine sy_rt ?_)
 exact ret1c 0 rfl rfl rfl rfl rfl rfl
end
theorem must_needK (x : PS) (t : List UInt8) : x.needK 4 t = x.must t := by
 unfold PS.needK PS.must PS.mayB mkB
 simp only [Bool.and_eq_true, decide_eq_true_eq]
section
variable (g : Nat) (x : PS) (w : World)
set_option maxRecDepth 20000 in
theorem rq_need (hx : x.Ok) (hT : TkAt g x w) (k : Int) (hk : k ≠ 0) (m : List UInt8) : Calls Tryz.prog 30 #[.agg ⟨ptW g x⟩, .int .i64 k, S m] w fun u w' => u = .returned (.agg ⟨ptW g (x.needK k m)⟩) ∧ Below w.heap.size w w' := by
 have hst : St (fun _ => False) w (fun w => TkAt g x w) := St.start (TkAt.bl g x) hT
 by_cases he : x.e = 0
 · by_cases hb : x.isK k m = true
   · have hb2 : (hdT x.l).1 = k ∧ (hdT x.l).2.2.2.1 = m := by unfold PS.isK at hb; simpa only [Bool.and_eq_true, decide_eq_true_eq] using hb
     rw [show x.needK k m = x.adv from if_pos ⟨he, hb2⟩]
     refine sy_enter rfl rfl ?_
     simp only [initFr]
     repeat (first | refine yK ?_ | refine yL 1 ?_ | (refine yX ?_; intro _) | (refine yA ?_; intro _))
     refine sy_ov (ov_call rfl (fun w _ => rq_fine g x w true (by simp [he]))) rfl rfl ?_
     repeat (first | refine yK ?_ | refine yP ?_ | refine yL 1 ?_ | refine yN ?_)
     refine sy_ov (ov_call rfl (fun w hw => rq_is g x w hx (hst.at hw) k m)) rfl rfl ?_
     rw [hb]
     repeat (first | refine yK ?_ | refine yP ?_ | refine yL 1 ?_ | refine yN ?_)
     refine sy_ov (ov_call rfl (fun w _ => rq_on g x w hx (by rw [hb2.1]; exact hk))) rfl rfl ?_
     repeat (first | refine yK ?_ | refine yS 0 ?_ | refine sy_rt ?_)
     exact ret1c 0 rfl rfl rfl rfl rfl rfl
   · have hb : x.isK k m = false := by simpa using hb
     rw [show x.needK k m = x.odd from if_neg (fun h => by unfold PS.isK at hb; rw [h.2.1, h.2.2] at hb; simp at hb)]
     refine sy_enter rfl rfl ?_
     simp only [initFr]
     repeat (first | refine yK ?_ | refine yL 1 ?_ | (refine yX ?_; intro _) | (refine yA ?_; intro _))
     refine sy_ov (ov_call rfl (fun w _ => rq_fine g x w true (by simp [he]))) rfl rfl ?_
     repeat (first | refine yK ?_ | refine yP ?_ | refine yL 1 ?_ | refine yN ?_)
     refine sy_ov (ov_call rfl (fun w hw => rq_is g x w hx (hst.at hw) k m)) rfl rfl ?_
     rw [hb]
     repeat (first | refine yK ?_ | refine yP ?_ | refine yL 1 ?_ | refine yT ?_)
     refine sy_ov (ov_call rfl (fun w hw => rq_wrong g x w hx (hst.at hw))) rfl rfl ?_
     repeat (first | refine yK ?_ | refine yS 0 ?_ | refine sy_rt ?_)
     exact ret1c 0 rfl rfl rfl rfl rfl rfl
 · rw [show x.needK k m = x.odd from if_neg (fun h => he h.1), odd_same he]
   refine sy_enter rfl rfl ?_
   simp only [initFr]
   repeat (first | refine yK ?_ | refine yL 1 ?_ | (refine yX ?_; intro _) | (refine yA ?_; intro _))
   refine sy_ov (ov_call rfl (fun w _ => rq_fine g x w false (by simp [he]))) rfl rfl ?_
   repeat (first | refine yK ?_ | refine yP ?_ | refine yL 1 ?_ | refine yS 0 ?_ | refine yT ?_ | refine sy_rt ?_)
   exact ret1c 0 rfl rfl rfl rfl rfl rfl
set_option maxRecDepth 20000 in
theorem rq_mark (hx : x.Ok) (hT : TkAt g x w) (m : List UInt8) : Calls Tryz.prog 61 #[.agg ⟨ptW g x⟩, S m] w fun u w' => u = .returned (.agg ⟨ptW g (x.must m)⟩) ∧ Below w.heap.size w w' := by
 have hst : St (fun _ => False) w (fun w => TkAt g x w) := St.start (TkAt.bl g x) hT
 have hn := fun w h => rq_need g x w hx h 4 (by decide) m
 rw [must_needK] at hn
 refine sy_enter rfl rfl ?_
 simp only [initFr]
 repeat (first | refine yK ?_ | refine yP ?_ | refine yL 1 ?_ | (refine yX ?_; intro _) | (refine yA ?_; intro _))
 refine sy_ov (ov_call rfl (fun w hw => hn w (hst.at hw))) rfl rfl ?_
 repeat (first | refine yK ?_ | refine yS 0 ?_ | refine sy_rt ?_)
 exact ret1c 0 rfl rfl rfl rfl rfl rfl
set_option maxRecDepth 20000 in
theorem rq_may (hx : x.Ok) (hT : TkAt g x w) (m : List UInt8) : Calls Tryz.prog 103 #[.agg ⟨ptW g x⟩, S m] w fun u w' => u = .returned (.tuple #[.agg ⟨ptW g (x.may m)⟩, .bool (x.mayB m)]) ∧ Below w.heap.size w w' := by
 have hst : St (fun _ => False) w (fun w => TkAt g x w) := St.start (TkAt.bl g x) hT
 by_cases he : x.e = 0
 · by_cases hb : x.isK 4 m = true
   · have hb2 : (hdT x.l).1 = 4 ∧ (hdT x.l).2.2.2.1 = m := by unfold PS.isK at hb; simpa only [Bool.and_eq_true, decide_eq_true_eq] using hb
     have hm : x.mayB m = true := by unfold PS.mayB mkB; simp [he, hb2.1, hb2.2]
     rw [show x.may m = x.adv from if_pos hm, hm]
     refine sy_enter rfl rfl ?_
     simp only [initFr]
     repeat (first | refine yK ?_ | refine yP ?_ | refine yL 1 ?_ | (refine yX ?_; intro _) | (refine yA ?_; intro _))
     refine sy_ov (ov_call rfl (fun w _ => rq_fine g x w true (by simp [he]))) rfl rfl ?_
     repeat (first | refine yP ?_ | refine yG ?_ | refine yL 1 ?_)
     refine sy_ov (ov_call rfl (fun w hw => rq_is g x w hx (hst.at hw) 4 m)) rfl rfl ?_
     rw [hb]
     repeat (first | refine yK ?_ | refine yL 1 ?_ | refine yM ?_ | refine yT ?_)
     refine sy_ov (ov_call rfl (fun w _ => rq_on g x w hx (by rw [hb2.1]; decide))) rfl rfl ?_
     repeat (first | refine yK ?_ | refine yP ?_ | refine yS 0 ?_ | refine sy_rt ?_)
     exact ret2ct 0 rfl rfl rfl rfl rfl rfl fun w' hw' => ⟨rfl, hw'.below⟩
   · have hb : x.isK 4 m = false := by simpa using hb
     have hm : x.mayB m = false := by unfold PS.mayB; show (_ && x.isK 4 m) = false; rw [hb]; simp
     rw [show x.may m = x from if_neg (by rw [hm]; decide), hm]
     refine sy_enter rfl rfl ?_
     simp only [initFr]
     repeat (first | refine yK ?_ | refine yP ?_ | refine yL 1 ?_ | (refine yX ?_; intro _) | (refine yA ?_; intro _))
     refine sy_ov (ov_call rfl (fun w _ => rq_fine g x w true (by simp [he]))) rfl rfl ?_
     repeat (first | refine yP ?_ | refine yG ?_ | refine yL 1 ?_)
     refine sy_ov (ov_call rfl (fun w hw => rq_is g x w hx (hst.at hw) 4 m)) rfl rfl ?_
     rw [hb]
     repeat (first | refine yK ?_ | refine yP ?_ | refine yL 1 ?_ | refine yS 0 ?_ | refine yM ?_ | refine yN ?_ | refine sy_rt ?_)
     exact ret2ct 0 rfl rfl rfl rfl rfl rfl fun w' hw' => ⟨rfl, hw'.below⟩
 · have hm : x.mayB m = false := may_bad he m
   rw [show x.may m = x from if_neg (by rw [hm]; decide), hm]
   refine sy_enter rfl rfl ?_
   simp only [initFr]
   repeat (first | refine yK ?_ | refine yP ?_ | refine yL 1 ?_ | (refine yX ?_; intro _) | (refine yA ?_; intro _))
   refine sy_ov (ov_call rfl (fun w _ => rq_fine g x w false (by simp [he]))) rfl rfl ?_
   repeat (first | refine yK ?_ | refine yP ?_ | refine yH ?_ | refine yL 1 ?_ | refine yS 0 ?_ | refine sy_ov (ov_pick rfl rfl rfl) rfl rfl ?_ | refine yN ?_ | refine sy_rt ?_)
   exact ret2ct 0 rfl rfl rfl rfl rfl rfl fun w' hw' => ⟨rfl, hw'.below⟩
set_option maxRecDepth 20000 in
set_option maxHeartbeats 2000000 in
theorem rq_any (hx : x.Ok) (hT : TkAt g x w) (k : Int) (hk : k ≠ 0) : Calls Tryz.prog 62 #[.agg ⟨ptW g x⟩, .int .i64 k] w fun u w' => u = .returned (.tuple #[.agg ⟨tokV (x.tok k)⟩, .agg ⟨ptW g (x.any k)⟩]) ∧ Below w.heap.size w w' := by
 have hst : St (fun _ => False) w (fun w => TkAt g x w) := St.start (TkAt.bl g x) hT
 obtain ⟨t, ht, hh⟩ := hx.hd
 have hne := hx.ne
 by_cases he : x.e = 0
 · by_cases h4 : t.1 = k
   · have hb : x.anyB k = true := by unfold PS.anyB; rw [hh]; simp [he, h4]
     have h0 : (hdT x.l).1 ≠ 0 := by rw [hh, h4]; exact hk
     rw [show x.any k = x.adv from if_pos hb, show x.tok k = t by unfold PS.tok; rw [if_pos hb, hh]]
     refine sy_enter rfl rfl ?_
     simp only [initFr]
     repeat (first | refine yK ?_ | refine yL 2 ?_ | (refine yX ?_; intro _) | (refine yA ?_; intro _))
     refine sy_ov (ov_call rfl (fun w _ => rq_fine g x w true (by simp [he]))) rfl rfl ?_
     repeat (first | refine yK ?_ | refine yP ?_ | refine yL 2 ?_ | refine yF ?_ | (refine yD ?_ ?_ ?_; omega; omega) | refine yN ?_)
     refine sy_ov (ov_loadx (v := .int .i64 t.1) rfl rfl (fun w hw => tk_at (hst.at hw) ht 0 rfl)) rfl rfl ?_
     repeat (first | refine yK ?_ | refine yP ?_ | refine yN ?_)
     refine sy_draw 6 (by kernel_rfl) ?_
     repeat (first | refine dr_op (ov_ld 2 rfl rfl rfl) rfl rfl ?_ | refine dr_op (ov_fieldAddr rfl rfl rfl) rfl rfl ?_ | (refine dr_op (ov_indexAddr rfl rfl ?_ ?_) rfl rfl ?_; omega; omega))
     refine dr_op (ov_loadxa (vs := tokV t) rfl rfl rfl (fun w hw j u hj => tk_at (hst.at hw) ht j hj)) rfl rfl ?_
     repeat (refine dr_op (ov_ld 2 rfl rfl rfl) rfl rfl ?_)
     refine dr_op (ov_call rfl (fun w _ => rq_on g x w hx h0)) rfl rfl ?_
     repeat (refine dr_end ?_)
     repeat (first | refine yK ?_ | refine yS 0 ?_ | refine yS 1 ?_ | refine sy_rt ?_)
     exact ret_ccw 1 0 rfl rfl rfl rfl rfl rfl rfl rfl rfl fun w' hw' => ⟨rfl, hw'.below⟩
   · have hb : x.anyB k = false := by unfold PS.anyB; rw [hh]; simp [h4]
     rw [show x.any k = x.odd from if_neg (by rw [hb]; decide), show x.tok k = ztk from if_neg (by rw [hb]; decide)]
     refine sy_enter rfl rfl ?_
     simp only [initFr]
     repeat (first | refine yK ?_ | refine yL 2 ?_ | (refine yX ?_; intro _) | (refine yA ?_; intro _))
     refine sy_ov (ov_call rfl (fun w _ => rq_fine g x w true (by simp [he]))) rfl rfl ?_
     repeat (first | refine yK ?_ | refine yP ?_ | refine yL 2 ?_ | refine yF ?_ | (refine yD ?_ ?_ ?_; omega; omega) | refine yN ?_)
     refine sy_ov (ov_loadx (v := .int .i64 t.1) rfl rfl (fun w hw => tk_at (hst.at hw) ht 0 rfl)) rfl rfl ?_
     repeat (first | refine yK ?_ | refine yP ?_ | refine yL 2 ?_ | refine yB ?_ | refine yT ?_)
     refine sy_ov (ov_call rfl (fun w hw => rq_wrong g x w hx (hst.at hw))) rfl rfl ?_
     repeat (first | refine yK ?_ | refine yS 0 ?_ | refine yS 1 ?_ | refine sy_rt ?_)
     exact ret_ccw 1 0 rfl rfl rfl rfl rfl rfl rfl rfl rfl fun w' hw' => ⟨rfl, hw'.below⟩
 · rw [any_same he, show x.tok k = ztk from if_neg (by rw [any_bad he]; decide)]
   refine sy_enter rfl rfl ?_
   simp only [initFr]
   repeat (first | refine yK ?_ | refine yL 2 ?_ | (refine yX ?_; intro _) | (refine yA ?_; intro _))
   refine sy_ov (ov_call rfl (fun w _ => rq_fine g x w false (by simp [he]))) rfl rfl ?_
   repeat (first | refine yK ?_ | refine yP ?_ | refine yT ?_)
   refine sy_drawE _ 3 [(0, false), (1, false), (2, true)] (by kernel_rfl) rfl ((sk (sd sr))) ?_
   repeat (first | refine dre_rd (fun _ _ => ov_ld 1 rfl rfl rfl) rfl ?_ | refine dre_rd (fun _ _ => ov_build rfl rfl rfl) rfl ?_ | (refine dre_ef rfl ?_; refine yS 1 ?_; refine dre_ek (by repeat first | exact sr | apply sk | apply sd) ?_) | refine dre_end ?_)
   repeat (first | refine yK ?_ | refine yS 0 ?_ | refine sy_rt ?_)
   exact ret_ccw 1 0 rfl rfl rfl rfl rfl rfl rfl rfl rfl fun w' hw' => ⟨rfl, hw'.below⟩
end
def qlH (g b1 b3 : Nat) (x : PS) (ys : List WordT) (p : Option Addr) (q : Nat) (r : List Value) : List En :=
 [blk b1 74 (ptW g x), wsRow ys p q, blk b3 74 r]
structure QlSt where
 x : PS
 ys : List WordT
 p : Option Addr
 q : Nat
structure QlI (x0 : PS) (R : List WordT × PS) (s : QlSt) : Prop where
 qa : QA x0 s.x
 len : s.ys.length + s.x.l.length ≤ x0.l.length
 go : ∃ n, s.x.l.length ≤ n ∧ qlabGo n (s.x.any 1) (s.ys ++ [qW s.x]) = R
def LabN (g : Nat) (r : List WordT × PS) (u : Value) (es : List En) : Prop := ∃ z : WsA, u = .tuple #[wsV z, .agg ⟨ptW g r.2⟩] ∧ z.l = r.1 ∧ es = [wsE z]
def zP : List Value := [.slice none 0 0, .int .i64 0, .int .i64 0]
section
variable (g : Nat) (x : PS) (w : World)
set_option maxRecDepth 20000 in
theorem rq_name (hx : x.Ok) (hT : TkAt g x w) : Calls Tryz.prog 66 #[.agg ⟨ptW g x⟩] w fun u w' => u = .returned (.tuple #[.agg ⟨wordV (qW x)⟩, .agg ⟨ptW g (x.any 1)⟩]) ∧ Below w.heap.size w w' := by
 have hst : St (fun _ => False) w (fun w => TkAt g x w) := St.start (TkAt.bl g x) hT
 refine sy_enter rfl rfl ?_
 simp only [initFr]
 repeat (first | refine yK ?_ | refine yL 2 ?_ | (refine yX ?_; intro _) | (refine yA ?_; intro _))
 refine sy_ov (ov_call rfl (fun w hw => rq_any g x w hx (hst.at hw) 1 (by decide))) rfl rfl ?_
 repeat (first | refine yK ?_ | refine yP ?_ | refine yS 0 ?_ | refine yS 1 ?_ | (refine yA ?_; intro _))
 refine sy_drawE _ 7 [(0, false), (1, false), (2, false), (3, false), (4, false), (5, false), (6, true)] (by kernel_rfl) rfl ((sk (sk nl))) ?_
 repeat (first | refine dre_rd (fun _ _ => ov_ld 0 rfl rfl rfl) rfl ?_ | refine dre_rd (fun _ _ => ov_ld 1 rfl rfl rfl) rfl ?_ | refine dre_rd (fun _ _ => ov_fieldAddr rfl rfl rfl) rfl ?_ | refine dre_rd (fun _ _ => ov_build rfl rfl rfl) rfl ?_ | (refine dre_ef rfl ?_; refine yS 3 ?_; refine dre_ek (by repeat first | exact sr | apply sk | apply sd) ?_) | refine dre_end ?_)
 repeat (first | refine yK ?_ | refine yS 2 ?_ | refine sy_rt ?_)
 exact ret_ccw 3 2 rfl rfl rfl rfl rfl rfl rfl rfl rfl fun w' hw' => ⟨rfl, hw'.below⟩
set_option maxRecDepth 20000 in
theorem rq_num (hx : x.Ok) (hT : TkAt g x w) : Calls Tryz.prog 63 #[.agg ⟨ptW g x⟩] w fun u w' => u = .returned (.tuple #[.int .i64 (qnum x).1, .agg ⟨ptW g (qnum x).2⟩]) ∧ Below w.heap.size w w' := by
 have hst : St (fun _ => False) w (fun w => TkAt g x w) := St.start (TkAt.bl g x) hT
 have a1 := QA.must hx [40]
 have a2 := a1.trans (QA.any a1.ok (by decide : (2 : Int) ≠ 0))
 refine sy_enter rfl rfl ?_
 simp only [initFr]
 repeat (first | refine yK ?_ | refine yP ?_ | refine yL 1 ?_ | (refine yX ?_; intro _) | (refine yA ?_; intro _))
 refine sy_ov (ov_call rfl (fun w hw => rq_mark g x w hx (hst.at hw) [40])) rfl rfl ?_
 skip
 refine sy_ov (ov_call rfl (fun w hw => rq_any g _ w a1.ok ((hst.at hw).on a1.on) 2 (by decide))) rfl rfl ?_
 repeat (first | refine yK ?_ | refine yP ?_ | refine yS 0 ?_ | refine yS 1 ?_ | (refine yA ?_; intro _))
 refine sy_draw 4 (by kernel_rfl) ?_
 repeat (first | refine dr_op (ov_ld 0 rfl rfl rfl) rfl rfl ?_ | refine dr_op (ov_ld 1 rfl rfl rfl) rfl rfl ?_ | refine dr_op (ov_fieldAddr rfl rfl rfl) rfl rfl ?_)
 refine dr_op (ov_call rfl (fun w hw => rq_mark g _ w a2.ok ((hst.at hw).on a2.on) [41])) rfl rfl ?_
 repeat (refine dr_end ?_)
 repeat (first | refine yK ?_ | refine yP ?_ | refine yS 2 ?_ | refine sy_rt ?_)
 exact ret2cw 2 rfl rfl rfl rfl rfl rfl fun w' hw' => ⟨rfl, hw'.below⟩
set_option maxRecDepth 20000 in
set_option maxHeartbeats 2000000 in
theorem rq_label (hx : x.Ok) (hl : x.l.length ≤ 65537) (hT : TkAt g x w) : Calls Tryz.prog 138 #[.agg ⟨ptW g x⟩] w (PostN w (LabN g (qlab x))) := by
 have hst : St (fun _ => False) w (fun w => TkAt g x w) := St.start (TkAt.bl g x) hT
 obtain ⟨R, hR⟩ : ∃ R, qlab x = R := ⟨_, rfl⟩
 rw [hR]
 refine sy_enter rfl rfl ?_
 simp only [initFr]
 repeat (first | refine yK ?_ | refine yP ?_ | (refine yX ?_; intro _) | (refine yA ?_; intro _))
 rename_i b1 b3
 refine sy_grow 36 2 ?_
 refine sy_order [2, 0, 1] rfl rfl ?_
 simp only [oX]
 refine sy_loop (α := QlSt) (fun s => [(1, ptr b1), (3, ptr b3), (4, .slice s.p s.ys.length s.q)]) (fun s => qlH g b1 b3 s.x s.ys s.p s.q zP) (QlI x R) (fun s => s.x.l.length) ⟨x, [], none, 0⟩ ⟨.refl hx, by simp, x.l.length, Nat.le_refl _, hR⟩ ⟨zz, zz, zz, trivial⟩ (by simp only [qlH, wsRow]; exact sr) ?_
 rintro ⟨x', ys, pk, ck⟩ ⟨qa, hlen, n, hn, hr⟩
 simp only at qa hlen hn hr
 simp only [qlH, wsRow]
 have hx' := qa.ok
 have a1 := QA.any hx' (by decide : (1 : Int) ≠ 0)
 have a1l := a1.len
 have hpos := hx'.ne
 by_cases hb : (x'.any 1).mayB [43] = true
 · have a2 := QA.adv a1.ok hb
   have a2l : (x'.any 1).adv.l.length = (x'.any 1).l.length - 1 := by simp [PS.adv]
   have hp1 := a1.ok.ne
   obtain ⟨n, rfl⟩ : ∃ k, n = k + 1 := ⟨n - 1, by omega⟩
   have hr' : qlabGo n ((x'.any 1).adv.any 1) (ys ++ [qW x'] ++ [qW (x'.any 1).adv]) = R := by
    rw [← hr]; conv => rhs; unfold qlabGo
    rw [if_pos hb]
   have hmay := fun w h => rq_may g (x'.any 1) w a1.ok h [43]
   rw [hb, show (x'.any 1).may [43] = (x'.any 1).adv from if_pos hb] at hmay
   repeat (first | refine yK ?_ | refine yL 0 ?_)
   refine sy_ov (ov_call rfl (fun w hw => rq_name g x' w hx' ((hst.at hw).on qa.on))) rfl rfl ?_
   repeat (first | refine yK ?_ | refine yP ?_ | refine yL 1 ?_ | refine yS 0 ?_ | refine yS 1 ?_ | (refine yA ?_; intro _))
   refine sy_buildSlice rfl rfl rfl rfl rfl rfl rfl rfl ?_
   intro g2
   refine sy_append 4 0 rfl rfl rfl rfl rfl rfl rfl rfl rfl rfl rfl (by omega) (by show (_ + 1) * 24 ≤ _; omega) ?_
   intro p' q'
   refine sy_weaken (fun _ _ h => h) (sd sr) ?_
   repeat (first | refine yK ?_ | refine yP ?_ | refine yL 0 ?_)
   refine sy_ov (ov_call rfl (fun w hw => hmay w ((hst.at hw).on (qa.on.trans a1.on)))) rfl rfl ?_
   repeat (first | refine yK ?_ | refine yP ?_ | refine yL 0 ?_ | refine yS 0 ?_ | refine yS 3 ?_ | (refine yA ?_; intro _) | refine yN ?_)
   refine sy_back ⟨(x'.any 1).adv, ys ++ [qW x'], some p', q'⟩ ⟨qa.trans (a1.trans a2), by simp only [lX]; omega, n, by simp only; omega, hr'⟩ (by simp only; omega) ⟨zz, zz, ⟨_, rfl, by simp only [lX]⟩, trivial⟩ (by simp only [qlH, wsRow, words_snoc, lX]; exact sd (sd (sd (sk (sk (sk nl))))))
 · have hb : (x'.any 1).mayB [43] = false := by simpa using hb
   have hr' : R = (ys ++ [qW x'], x'.any 1) := by
    rw [← hr]
    cases n with
    | zero => rfl
    | succ n => unfold qlabGo; rw [hb, if_neg (by decide)]
   subst hr'
   have hmay := fun w h => rq_may g (x'.any 1) w a1.ok h [43]
   rw [hb, show (x'.any 1).may [43] = x'.any 1 from if_neg (by rw [hb]; decide)] at hmay
   repeat (first | refine yK ?_ | refine yL 0 ?_)
   refine sy_ov (ov_call rfl (fun w hw => rq_name g x' w hx' ((hst.at hw).on qa.on))) rfl rfl ?_
   repeat (first | refine yK ?_ | refine yP ?_ | refine yL 1 ?_ | refine yS 0 ?_ | refine yS 1 ?_ | (refine yA ?_; intro _))
   refine sy_buildSlice rfl rfl rfl rfl rfl rfl rfl rfl ?_
   intro g2
   refine sy_append 4 0 rfl rfl rfl rfl rfl rfl rfl rfl rfl rfl rfl (by omega) (by show (_ + 1) * 24 ≤ _; omega) ?_
   intro p' q'
   refine sy_weaken (fun _ _ h => h) (sd sr) ?_
   repeat (first | refine yK ?_ | refine yP ?_ | refine yL 0 ?_)
   refine sy_ov (ov_call rfl (fun w hw => hmay w ((hst.at hw).on (qa.on.trans a1.on)))) rfl rfl ?_
   repeat (first | refine yK ?_ | refine yP ?_ | refine yS 0 ?_ | (refine yA ?_; intro _) | refine yT ?_)
   refine sy_vecIs (n' := (ys ++ [qW x']).length) (cs' := (ys ++ [qW x']).flatMap wordV) 4 rfl (by simp) (by rw [words_snoc]; rfl) ?_
   refine sy_order [4, 0, 1, 2, 3, 5] rfl rfl ?_
   simp only [oX]
   refine sy_wsMk ?_
   refine sy_order [0, 5, 2, 1, 3, 4] rfl rfl ?_
   simp only [oX]
   refine sy_draw 3 (by kernel_rfl) ?_
   repeat (first | refine dr_op (ov_p rfl) rfl rfl ?_ | refine dr_op (ov_ld 2 rfl rfl rfl) rfl rfl ?_ | refine dr_end ?_)
   repeat (first | refine yK ?_ | refine yS 1 ?_ | refine sy_rt ?_)
   exact ret2cw 1 rfl rfl rfl rfl rfl rfl fun w' hw' => ⟨_, _, ⟨⟨some p', q', ys ++ [qW x']⟩, by simp only [wsV, lX]; rfl, rfl, rfl⟩, rfl, hw'.weaken (sk nl)⟩
end
def CoN (g : Nat) (r : CoT × PS) (u : Value) (es : List En) : Prop := ∃ k n a, ∃ z : WsA, u = .tuple #[.agg ⟨coV k n a z⟩, .agg ⟨ptW g r.2⟩] ∧ (k, n, a, z.l) = r.1 ∧ es = [wsE z]
section
variable (g : Nat) (x : PS) (w : World)
set_option maxRecDepth 20000 in
set_option maxHeartbeats 4000000 in
theorem rq_coarse (hx : x.Ok) (hl : x.l.length ≤ 65537) (hT : TkAt g x w) : Calls Tryz.prog 139 #[.agg ⟨ptW g x⟩] w (PostN w (CoN g (qco x))) := by
 have hst : St (fun _ => False) w (fun w => TkAt g x w) := St.start (TkAt.bl g x) hT
 obtain ⟨t, ht, hh⟩ := hx.hd
 have hne := hx.ne
 by_cases he : x.e = 0
 · have hq : qco x = if t.1 ≠ 1 then ((0, 0, t.2.1, []), x.odd) else if t.2.2.2.1 = wFloor then ((1, (qnum x.adv).1, t.2.1, (qatL (qnum x.adv).2).1), (qatL (qnum x.adv).2).2) else if t.2.2.2.1 = wFirst then ((2, (qnum x.adv).1, t.2.1, (qatL (qnum x.adv).2).1), (qatL (qnum x.adv).2).2) else if t.2.2.2.1 = wCount then ((3, 0, t.2.1, (qatL x.adv).1), (qatL x.adv).2) else ((0, 0, t.2.1, []), x.failH 9) := by
    unfold qco; rw [if_neg (show ¬ x.e ≠ 0 from fun h => h he), hh]
   rw [hq]
   by_cases h1 : t.1 = 1
   · rw [if_neg (show ¬ t.1 ≠ 1 from fun h => h h1)]
     have h0 : (hdT x.l).1 ≠ 0 := by rw [hh, h1]; decide
     have qa := QA.advK hx h0
     have qn := qa.trans (QA.num qa.ok)
     by_cases c1 : t.2.2.2.1 = wFloor
     · rw [if_pos c1]
       refine sy_enter rfl rfl ?_
       simp only [initFr]
       repeat (first | refine yK ?_ | refine yL 2 ?_ | (refine yX ?_; intro _) | (refine yA ?_; intro _))
       refine sy_ov (ov_call rfl (fun w _ => rq_fine g x w true (by simp [he]))) rfl rfl ?_
       repeat (first | refine yK ?_ | refine yP ?_ | refine yL 2 ?_ | refine yF ?_ | (refine yD ?_ ?_ ?_; omega; omega) | refine yN ?_)
       refine sy_ov (ov_loadxa (vs := tokV t) rfl rfl rfl (fun w hw j u hj => tk_at (hst.at hw) ht j hj)) rfl rfl ?_
       repeat (first | refine yK ?_ | refine yP ?_ | refine yL 0 ?_ | refine yL 1 ?_ | refine yL 4 ?_ | refine yS 0 ?_ | refine yF ?_ | refine yB ?_ | (refine yA ?_; intro _) | refine yT ?_ | refine yN ?_)
       refine sy_ov (ov_call rfl (fun w _ => rq_on g x w hx h0)) rfl rfl ?_
       skip
       refine sy_ov (ov_call rfl (fun w hw => rq_num g _ w qa.ok ((hst.at hw).on qa.on))) rfl rfl ?_
       repeat (first | refine yK ?_ | refine yP ?_ | refine yL 4 ?_ | refine yS 0 ?_ | refine yS 4 ?_ | refine yF ?_)
       refine sy_ov (ov_call rfl (fun w hw => rq_may g ((qnum x.adv).2) w (qn).ok ((hst.at hw).on (qn).on) [64])) rfl rfl ?_
       by_cases h64 : PS.mayB ((qnum x.adv).2) [64] = true
       · have hR : qatL ((qnum x.adv).2) = qlab (PS.adv ((qnum x.adv).2)) := if_pos h64
         have aa := QA.adv (qn).ok h64
         have al := ((qn).trans aa).len
         rw [hR, h64, show PS.may ((qnum x.adv).2) [64] = PS.adv ((qnum x.adv).2) from if_pos h64]
         repeat (first | refine yK ?_ | refine yP ?_ | refine yL 0 ?_ | refine yS 0 ?_ | (refine yA ?_; intro _) | refine yT ?_)
         refine sy_weaken (fun _ _ h => h) (sk (sk (sd (sk (sk nl))))) ?_
         skip
         refine sy_callN rfl rfl (fun w hw => rq_label g _ w aa.ok (by omega) ((hst.at hw).on ((qn).trans aa).on)) ?_
         rintro _ _ ⟨z, rfl, hz, rfl⟩
         simp only [cX]
         repeat (first | refine yK ?_ | refine yP ?_ | refine yS 1 ?_ | refine yS 2 ?_ | refine yF ?_)
         refine sy_drawE _ 3 [(0, false), (1, false), (2, true)] (by kernel_rfl) rfl ((sd (sk (sk nl)))) ?_
         repeat (first | refine dre_rd (fun _ _ => ov_ld 0 rfl rfl rfl) rfl ?_ | refine dre_rd (fun _ _ => ov_ld 1 rfl rfl rfl) rfl ?_ | (refine dre_ef rfl ?_; refine yS 4 ?_; refine dre_ek (by repeat first | exact sr | apply sk | apply sd) ?_) | refine dre_end ?_)
         repeat (first | refine yK ?_ | refine yS 3 ?_ | refine sy_rt ?_)
         exact ret_ccw 4 3 rfl rfl rfl rfl rfl rfl rfl rfl rfl fun w' hw' => ⟨_, _, ⟨1, (qnum x.adv).1, _, z, rfl, by rw [hz], rfl⟩, rfl, hw'.weaken (sk nl)⟩
       · have hR : qatL ((qnum x.adv).2) = ([], ((qnum x.adv).2)) := if_neg h64
         have h64 : PS.mayB ((qnum x.adv).2) [64] = false := by simpa using h64
         rw [hR, h64, show PS.may ((qnum x.adv).2) [64] = ((qnum x.adv).2) from if_neg (by rw [h64]; decide)]
         repeat (first | refine yK ?_ | refine yP ?_ | refine yS 0 ?_ | (refine yA ?_; intro _) | refine yN ?_)
         refine sy_weaken (fun _ _ h => h) (sk (sk (sd (sk (sk nl))))) ?_
         refine sy_ws0 ?_
         skip
         refine sy_drawE _ 3 [(0, false), (1, false), (2, true)] (by kernel_rfl) rfl ((sd (sk (sk nl)))) ?_
         repeat (first | refine dre_rd (fun _ _ => ov_ld 0 rfl rfl rfl) rfl ?_ | refine dre_rd (fun _ _ => ov_ld 1 rfl rfl rfl) rfl ?_ | (refine dre_ef rfl ?_; refine yS 4 ?_; refine dre_ek (by repeat first | exact sr | apply sk | apply sd) ?_) | refine dre_end ?_)
         repeat (first | refine yK ?_ | refine yS 3 ?_ | refine sy_rt ?_)
         exact ret_ccw 4 3 rfl rfl rfl rfl rfl rfl rfl rfl rfl fun w' hw' => ⟨_, _, ⟨1, (qnum x.adv).1, _, ws0, rfl, rfl, rfl⟩, rfl, hw'.weaken (sk nl)⟩
     · rw [if_neg c1]
       by_cases c2 : t.2.2.2.1 = wFirst
       · rw [if_pos c2]
         refine sy_enter rfl rfl ?_
         simp only [initFr]
         repeat (first | refine yK ?_ | refine yL 2 ?_ | (refine yX ?_; intro _) | (refine yA ?_; intro _))
         refine sy_ov (ov_call rfl (fun w _ => rq_fine g x w true (by simp [he]))) rfl rfl ?_
         repeat (first | refine yK ?_ | refine yP ?_ | refine yL 2 ?_ | refine yF ?_ | (refine yD ?_ ?_ ?_; omega; omega) | refine yN ?_)
         refine sy_ov (ov_loadxa (vs := tokV t) rfl rfl rfl (fun w hw j u hj => tk_at (hst.at hw) ht j hj)) rfl rfl ?_
         repeat (first | refine yK ?_ | refine yP ?_ | refine yL 0 ?_ | refine yL 1 ?_ | refine yL 4 ?_ | refine yS 0 ?_ | refine yF ?_ | refine yB ?_ | (refine yA ?_; intro _) | refine yT ?_ | refine yN ?_)
         refine sy_ov (ov_call rfl (fun w _ => rq_on g x w hx h0)) rfl rfl ?_
         skip
         refine sy_ov (ov_call rfl (fun w hw => rq_num g _ w qa.ok ((hst.at hw).on qa.on))) rfl rfl ?_
         repeat (first | refine yK ?_ | refine yP ?_ | refine yL 4 ?_ | refine yS 0 ?_ | refine yS 4 ?_ | refine yF ?_)
         refine sy_ov (ov_call rfl (fun w hw => rq_may g ((qnum x.adv).2) w (qn).ok ((hst.at hw).on (qn).on) [64])) rfl rfl ?_
         by_cases h64 : PS.mayB ((qnum x.adv).2) [64] = true
         · have hR : qatL ((qnum x.adv).2) = qlab (PS.adv ((qnum x.adv).2)) := if_pos h64
           have aa := QA.adv (qn).ok h64
           have al := ((qn).trans aa).len
           rw [hR, h64, show PS.may ((qnum x.adv).2) [64] = PS.adv ((qnum x.adv).2) from if_pos h64]
           repeat (first | refine yK ?_ | refine yP ?_ | refine yL 0 ?_ | refine yS 0 ?_ | (refine yA ?_; intro _) | refine yT ?_)
           refine sy_weaken (fun _ _ h => h) (sk (sk (sd (sk (sk nl))))) ?_
           skip
           refine sy_callN rfl rfl (fun w hw => rq_label g _ w aa.ok (by omega) ((hst.at hw).on ((qn).trans aa).on)) ?_
           rintro _ _ ⟨z, rfl, hz, rfl⟩
           simp only [cX]
           repeat (first | refine yK ?_ | refine yP ?_ | refine yS 1 ?_ | refine yS 2 ?_ | refine yF ?_)
           refine sy_drawE _ 3 [(0, false), (1, false), (2, true)] (by kernel_rfl) rfl ((sd (sk (sk nl)))) ?_
           repeat (first | refine dre_rd (fun _ _ => ov_ld 0 rfl rfl rfl) rfl ?_ | refine dre_rd (fun _ _ => ov_ld 1 rfl rfl rfl) rfl ?_ | (refine dre_ef rfl ?_; refine yS 4 ?_; refine dre_ek (by repeat first | exact sr | apply sk | apply sd) ?_) | refine dre_end ?_)
           repeat (first | refine yK ?_ | refine yS 3 ?_ | refine sy_rt ?_)
           exact ret_ccw 4 3 rfl rfl rfl rfl rfl rfl rfl rfl rfl fun w' hw' => ⟨_, _, ⟨2, (qnum x.adv).1, _, z, rfl, by rw [hz], rfl⟩, rfl, hw'.weaken (sk nl)⟩
         · have hR : qatL ((qnum x.adv).2) = ([], ((qnum x.adv).2)) := if_neg h64
           have h64 : PS.mayB ((qnum x.adv).2) [64] = false := by simpa using h64
           rw [hR, h64, show PS.may ((qnum x.adv).2) [64] = ((qnum x.adv).2) from if_neg (by rw [h64]; decide)]
           repeat (first | refine yK ?_ | refine yP ?_ | refine yS 0 ?_ | (refine yA ?_; intro _) | refine yN ?_)
           refine sy_weaken (fun _ _ h => h) (sk (sk (sd (sk (sk nl))))) ?_
           refine sy_ws0 ?_
           skip
           refine sy_drawE _ 3 [(0, false), (1, false), (2, true)] (by kernel_rfl) rfl ((sd (sk (sk nl)))) ?_
           repeat (first | refine dre_rd (fun _ _ => ov_ld 0 rfl rfl rfl) rfl ?_ | refine dre_rd (fun _ _ => ov_ld 1 rfl rfl rfl) rfl ?_ | (refine dre_ef rfl ?_; refine yS 4 ?_; refine dre_ek (by repeat first | exact sr | apply sk | apply sd) ?_) | refine dre_end ?_)
           repeat (first | refine yK ?_ | refine yS 3 ?_ | refine sy_rt ?_)
           exact ret_ccw 4 3 rfl rfl rfl rfl rfl rfl rfl rfl rfl fun w' hw' => ⟨_, _, ⟨2, (qnum x.adv).1, _, ws0, rfl, rfl, rfl⟩, rfl, hw'.weaken (sk nl)⟩
       · rw [if_neg c2]
         by_cases c3 : t.2.2.2.1 = wCount
         · rw [if_pos c3]
           refine sy_enter rfl rfl ?_
           simp only [initFr]
           repeat (first | refine yK ?_ | refine yL 2 ?_ | (refine yX ?_; intro _) | (refine yA ?_; intro _))
           refine sy_ov (ov_call rfl (fun w _ => rq_fine g x w true (by simp [he]))) rfl rfl ?_
           repeat (first | refine yK ?_ | refine yP ?_ | refine yL 2 ?_ | refine yF ?_ | (refine yD ?_ ?_ ?_; omega; omega) | refine yN ?_)
           refine sy_ov (ov_loadxa (vs := tokV t) rfl rfl rfl (fun w hw j u hj => tk_at (hst.at hw) ht j hj)) rfl rfl ?_
           repeat (first | refine yK ?_ | refine yP ?_ | refine yL 0 ?_ | refine yL 1 ?_ | refine yL 4 ?_ | refine yS 0 ?_ | refine yF ?_ | refine yB ?_ | (refine yA ?_; intro _) | refine yT ?_ | refine yN ?_)
           refine sy_ov (ov_call rfl (fun w _ => rq_on g x w hx h0)) rfl rfl ?_
           repeat (first | refine yK ?_ | refine yL 4 ?_ | refine yS 4 ?_)
           refine sy_ov (ov_call rfl (fun w hw => rq_may g x.adv w (qa).ok ((hst.at hw).on (qa).on) [64])) rfl rfl ?_
           by_cases h64 : PS.mayB x.adv [64] = true
           · have hR : qatL x.adv = qlab (PS.adv x.adv) := if_pos h64
             have aa := QA.adv (qa).ok h64
             have al := ((qa).trans aa).len
             rw [hR, h64, show PS.may x.adv [64] = PS.adv x.adv from if_pos h64]
             repeat (first | refine yK ?_ | refine yP ?_ | refine yL 0 ?_ | refine yS 0 ?_ | (refine yA ?_; intro _) | refine yT ?_)
             refine sy_weaken (fun _ _ h => h) (sk (sk (sd (sk (sk nl))))) ?_
             skip
             refine sy_callN rfl rfl (fun w hw => rq_label g _ w aa.ok (by omega) ((hst.at hw).on ((qa).trans aa).on)) ?_
             rintro _ _ ⟨z, rfl, hz, rfl⟩
             simp only [cX]
             repeat (first | refine yK ?_ | refine yP ?_ | refine yS 1 ?_ | refine yS 2 ?_ | refine yF ?_)
             refine sy_drawE _ 3 [(0, false), (1, false), (2, true)] (by kernel_rfl) rfl ((sd (sk (sk nl)))) ?_
             repeat (first | refine dre_rd (fun _ _ => ov_ld 0 rfl rfl rfl) rfl ?_ | refine dre_rd (fun _ _ => ov_ld 1 rfl rfl rfl) rfl ?_ | (refine dre_ef rfl ?_; refine yS 4 ?_; refine dre_ek (by repeat first | exact sr | apply sk | apply sd) ?_) | refine dre_end ?_)
             repeat (first | refine yK ?_ | refine yS 3 ?_ | refine sy_rt ?_)
             exact ret_ccw 4 3 rfl rfl rfl rfl rfl rfl rfl rfl rfl fun w' hw' => ⟨_, _, ⟨3, 0, _, z, rfl, by rw [hz], rfl⟩, rfl, hw'.weaken (sk nl)⟩
           · have hR : qatL x.adv = ([], x.adv) := if_neg h64
             have h64 : PS.mayB x.adv [64] = false := by simpa using h64
             rw [hR, h64, show PS.may x.adv [64] = x.adv from if_neg (by rw [h64]; decide)]
             repeat (first | refine yK ?_ | refine yP ?_ | refine yS 0 ?_ | (refine yA ?_; intro _) | refine yN ?_)
             refine sy_weaken (fun _ _ h => h) (sk (sk (sd (sk (sk nl))))) ?_
             refine sy_ws0 ?_
             skip
             refine sy_drawE _ 3 [(0, false), (1, false), (2, true)] (by kernel_rfl) rfl ((sd (sk (sk nl)))) ?_
             repeat (first | refine dre_rd (fun _ _ => ov_ld 0 rfl rfl rfl) rfl ?_ | refine dre_rd (fun _ _ => ov_ld 1 rfl rfl rfl) rfl ?_ | (refine dre_ef rfl ?_; refine yS 4 ?_; refine dre_ek (by repeat first | exact sr | apply sk | apply sd) ?_) | refine dre_end ?_)
             repeat (first | refine yK ?_ | refine yS 3 ?_ | refine sy_rt ?_)
             exact ret_ccw 4 3 rfl rfl rfl rfl rfl rfl rfl rfl rfl fun w' hw' => ⟨_, _, ⟨3, 0, _, ws0, rfl, rfl, rfl⟩, rfl, hw'.weaken (sk nl)⟩
         · rw [if_neg c3]
           refine sy_enter rfl rfl ?_
           simp only [initFr]
           repeat (first | refine yK ?_ | refine yL 2 ?_ | (refine yX ?_; intro _) | (refine yA ?_; intro _))
           refine sy_ov (ov_call rfl (fun w _ => rq_fine g x w true (by simp [he]))) rfl rfl ?_
           repeat (first | refine yK ?_ | refine yP ?_ | refine yL 2 ?_ | refine yF ?_ | (refine yD ?_ ?_ ?_; omega; omega) | refine yN ?_)
           refine sy_ov (ov_loadxa (vs := tokV t) rfl rfl rfl (fun w hw j u hj => tk_at (hst.at hw) ht j hj)) rfl rfl ?_
           repeat (first | refine yK ?_ | refine yP ?_ | refine yL 0 ?_ | refine yL 1 ?_ | refine yS 0 ?_ | refine yF ?_ | refine yB ?_ | (refine yA ?_; intro _) | refine yN ?_)
           refine sy_ws0 ?_
           refine sy_drawE _ 8 [(0, false), (1, false), (2, false), (3, false), (4, false), (5, false), (6, false), (7, true)] (by kernel_rfl) rfl ((sd (sk (sk (sd (sd (sk nl))))))) ?_
           repeat (first | refine dre_rd (fun _ _ => ov_ld 0 rfl rfl rfl) rfl ?_ | refine dre_rd (fun _ _ => ov_ld 1 rfl rfl rfl) rfl ?_ | refine dre_rd (fun _ _ => ov_ld 2 rfl rfl rfl) rfl ?_ | refine dre_rd (fun _ _ => ov_fieldAddr rfl rfl rfl) rfl ?_ | refine dre_rd (fun _ _ => ov_build rfl rfl rfl) rfl ?_ | (refine dre_ef rfl ?_; refine yS 4 ?_; refine dre_ek (by repeat first | exact sr | apply sk | apply sd) ?_) | refine dre_end ?_)
           repeat (first | refine yK ?_ | refine yS 3 ?_ | refine sy_rt ?_)
           exact ret_ccw 4 3 rfl rfl rfl rfl rfl rfl rfl rfl rfl fun w' hw' => ⟨_, _, ⟨0, 0, t.2.1, ws0, by unfold PS.failH; rw [hh]; rfl, rfl, rfl⟩, rfl, hw'.weaken (sk nl)⟩
   · rw [if_pos h1]
     refine sy_enter rfl rfl ?_
     simp only [initFr]
     repeat (first | refine yK ?_ | refine yL 2 ?_ | (refine yX ?_; intro _) | (refine yA ?_; intro _))
     refine sy_ov (ov_call rfl (fun w _ => rq_fine g x w true (by simp [he]))) rfl rfl ?_
     repeat (first | refine yK ?_ | refine yP ?_ | refine yL 2 ?_ | refine yF ?_ | (refine yD ?_ ?_ ?_; omega; omega) | refine yN ?_)
     refine sy_ov (ov_loadxa (vs := tokV t) rfl rfl rfl (fun w hw j u hj => tk_at (hst.at hw) ht j hj)) rfl rfl ?_
     repeat (first | refine yK ?_ | refine yP ?_ | refine yL 0 ?_ | refine yL 1 ?_ | refine yS 0 ?_ | refine yF ?_ | refine yB ?_ | (refine yA ?_; intro _) | refine yT ?_)
     refine sy_ws0 ?_
     refine sy_order [1, 2, 3, 4, 5, 0] rfl rfl ?_
     simp only [oX]
     refine sy_draw 3 (by kernel_rfl) ?_
     repeat (first | refine dr_op (ov_ld 0 rfl rfl rfl) rfl rfl ?_ | refine dr_op (ov_ld 4 rfl rfl rfl) rfl rfl ?_)
     refine dr_op (ov_call rfl (fun w hw => rq_wrong g x w hx (hst.at hw))) rfl rfl ?_
     repeat (refine dr_end ?_)
     repeat (first | refine yK ?_ | refine yS 2 ?_ | refine yS 3 ?_ | refine sy_rt ?_)
     exact ret_ccw 3 2 rfl rfl rfl rfl rfl rfl rfl rfl rfl fun w' hw' => ⟨_, _, ⟨0, 0, t.2.1, ws0, rfl, rfl, rfl⟩, rfl, hw'.weaken (sd (sd (sd (sd (sd sr)))))⟩
 · have hq : qco x = (zco, x) := if_pos he
   rw [hq]
   refine sy_enter rfl rfl ?_
   simp only [initFr]
   repeat (first | refine yK ?_ | refine yL 2 ?_ | (refine yX ?_; intro _) | (refine yA ?_; intro _))
   refine sy_ov (ov_call rfl (fun w _ => rq_fine g x w false (by simp [he]))) rfl rfl ?_
   repeat (first | refine yK ?_ | refine yP ?_ | refine yT ?_)
   refine sy_ws0 ?_
   refine sy_drawE _ 3 [(0, false), (1, false), (2, true)] (by kernel_rfl) rfl ((sd (sd (sd (sk nl))))) ?_
   repeat (first | refine dre_rd (fun _ _ => ov_ld 0 rfl rfl rfl) rfl ?_ | refine dre_rd (fun _ _ => ov_build rfl rfl rfl) rfl ?_ | (refine dre_ef rfl ?_; refine yS 2 ?_; refine dre_ek (by repeat first | exact sr | apply sk | apply sd) ?_) | refine dre_end ?_)
   repeat (first | refine yK ?_ | refine yS 1 ?_ | refine sy_rt ?_)
   exact ret_ccw 2 1 rfl rfl rfl rfl rfl rfl rfl rfl rfl fun w' hw' => ⟨_, _, ⟨0, 0, 0, ws0, rfl, rfl, rfl⟩, rfl, hw'.weaken (sk nl)⟩
end
theorem upd0 (vs ph : List Value) (h : ph.length = vs.length) : upd ph 0 vs = vs := by simpa using upd_all vs ph [] h
theorem sy_frame {P : Program} {C : Cx} {k : List It} {fr : Fr} {hp : List En} (F : Fr) (hf : Sub F fr) (h : Sy P C k F hp) : Sy P C k fr hp := .mk fun a w ha hw => h.go a w (hf.frOk ha) hw
def MkN (g : Nat) (nm : WordT) (bare : Bool) (tv : List Value) (r : (List WordT × Int × CoT) × PS) (u : Value) (es : List En) : Prop := ∃ lab wide ck cn ca cl, u = .tuple #[.agg ⟨prtC nm bare lab wide ck cn ca cl tv⟩, .agg ⟨ptW g r.2⟩] ∧ (lab.l, wide, (ck, cn, ca, cl.l)) = r.1 ∧ es = [wsE lab, wsE cl]
section
variable (g : Nat) (x : PS) (w : World)
set_option maxRecDepth 20000 in
set_option maxHeartbeats 8000000 in
theorem rq_marks (nm : WordT) (bare : Bool) (k a lo hi most : Int) (ns : WsA) (pp : Option Addr) (cp : Nat) (parts : List PrtA) (tn : WordT) (hx : x.Ok) (hl : x.l.length ≤ 65537) (hT : TkAt g x w) :
 Calls Tryz.prog 121 #[.agg ⟨ptW g x⟩, .agg ⟨prtC nm bare ws0 0 0 0 0 ws0 (typV (.mk k a lo hi most ns pp cp parts tn))⟩] w (PostN w (MkN g nm bare (typV (.mk k a lo hi most ns pp cp parts tn)) (qmk x))) := by
 have hst : St (fun _ => False) w (fun w => TkAt g x w) := St.start (TkAt.bl g x) hT
 have qr := QA.refl hx
 simp only [prtC, typV, cX]
 by_cases h1 : x.mayB [64] = true
 · have a1 := QA.adv hx h1
   have a1l := a1.len
   have a2 := a1.trans (QA.qlab a1.ok)
   have a2l := a2.len
   have e1 : qatL x = ((qlab x.adv).1, (qlab x.adv).2) := if_pos h1
   by_cases h2 : PS.mayB ((qlab x.adv).2) [35] = true
   · have b1 := QA.adv (a2).ok h2
     have qb2 := (a2).trans (b1.trans (QA.any b1.ok (by decide : (2 : Int) ≠ 0)))
     have e2 : qwid ((qlab x.adv).2) = ((PS.tok (PS.adv ((qlab x.adv).2)) 2).2.2.2.2, PS.any (PS.adv ((qlab x.adv).2)) 2) := if_pos h2
     by_cases h3 : PS.mayB (PS.any (PS.adv ((qlab x.adv).2)) 2) [126] = true
     · have c1 := QA.adv (qb2).ok h3
       have e3 : qsee (PS.any (PS.adv ((qlab x.adv).2)) 2) = qco (PS.adv (PS.any (PS.adv ((qlab x.adv).2)) 2)) := if_pos h3
       unfold qmk
       rw [e1]
       simp only
       rw [e2]
       simp only
       rw [e3]
       refine sy_enter rfl rfl ?_
       simp only [initFr]
       repeat (first | refine yK ?_ | refine yL 3 ?_ | (refine yX ?_; intro _) | (refine yA ?_; intro _))
       rename_i b2 b3 b4 b5
       refine sy_order [3, 2, 1, 0] rfl rfl ?_
       simp only [oX]
       refine sy_ov (ov_call rfl (fun w hw => rq_may g x w hx (hst.at hw) [64])) rfl rfl ?_
       rw [h1, show x.may [64] = x.adv from if_pos h1]
       repeat (first | refine yK ?_ | refine yP ?_ | refine yL 0 ?_ | refine yS 0 ?_ | refine yT ?_)
       refine sy_callN rfl rfl (fun w hw => rq_label g _ w a1.ok (by omega) ((hst.at hw).on a1.on)) ?_
       rintro _ _ ⟨z1, rfl, hz1, rfl⟩
       simp only [cX]
       refine sy_order [1, 2, 3, 4, 0] rfl rfl ?_
       simp only [oX]
       repeat (first | refine yK ?_ | refine yP ?_ | refine yL 0 ?_ | refine yS 0 ?_ | refine yS 1 ?_ | refine yF ?_)
       refine sy_cells 1 (prtC nm bare z1 0 0 0 0 ws0 (typV (.mk k a lo hi most ns pp cp parts tn))) rfl rfl ?_
       simp only [prtC, typV, cX]
       refine sy_cells 0 (ptW g ((qlab x.adv).2)) rfl rfl ?_
       refine sy_frame [(2, ptr b2), (3, ptr b3), (4, ptr b4), (5, ptr b5), (24, .agg ⟨ptW g ((qlab x.adv).2)⟩)] ⟨zz, zz, zz, zz, zz, trivial⟩ ?_
       simp only [List.set_cons_zero, List.set_cons_succ]
       refine sy_ov (ov_call rfl (fun w hw => rq_may g ((qlab x.adv).2) w (a2).ok ((hst.at hw).on (a2).on) [35])) rfl rfl ?_
       rw [h2, show PS.may ((qlab x.adv).2) [35] = PS.adv ((qlab x.adv).2) from if_pos h2]
       repeat (first | refine yK ?_ | refine yP ?_ | refine yL 0 ?_ | refine yS 0 ?_ | refine yT ?_)
       refine sy_ov (ov_call rfl (fun w hw => rq_any g _ w b1.ok ((hst.at hw).on ((a2).trans b1).on) 2 (by decide))) rfl rfl ?_
       repeat (first | refine yK ?_ | refine yP ?_ | refine yL 0 ?_ | refine yL 1 ?_ | refine yL 2 ?_ | refine yS 0 ?_ | refine yS 1 ?_ | refine yS 2 ?_ | refine yS 3 ?_ | refine yF ?_ | (refine yA ?_; intro _))
       refine sy_weaken (fun _ _ h => h) (sd (sd sr)) ?_
       refine sy_cells 1 (prtC nm bare z1 ((PS.tok (PS.adv ((qlab x.adv).2)) 2).2.2.2.2) 0 0 0 ws0 (typV (.mk k a lo hi most ns pp cp parts tn))) rfl rfl ?_
       simp only [prtC, typV, cX]
       skip
       refine sy_cells 0 (ptW g (PS.any (PS.adv ((qlab x.adv).2)) 2)) rfl rfl ?_
       refine sy_frame [(2, ptr b2), (3, ptr b3), (4, ptr b4), (5, ptr b5), (39, .agg ⟨ptW g (PS.any (PS.adv ((qlab x.adv).2)) 2)⟩)] ⟨zz, zz, zz, zz, zz, trivial⟩ ?_
       simp only [List.set_cons_zero, List.set_cons_succ]
       refine sy_ov (ov_call rfl (fun w hw => rq_may g (PS.any (PS.adv ((qlab x.adv).2)) 2) w (qb2).ok ((hst.at hw).on (qb2).on) [126])) rfl rfl ?_
       rw [h3, show PS.may (PS.any (PS.adv ((qlab x.adv).2)) 2) [126] = PS.adv (PS.any (PS.adv ((qlab x.adv).2)) 2) from if_pos h3]
       repeat (first | refine yK ?_ | refine yP ?_ | refine yL 0 ?_ | refine yS 0 ?_ | refine yT ?_)
       refine sy_callN rfl rfl (fun w hw => rq_coarse g _ w c1.ok (by have := ((qb2).trans c1).len; omega) ((hst.at hw).on ((qb2).trans c1).on)) ?_
       rintro _ _ ⟨ck, cn, ca, z3, rfl, hz3, rfl⟩
       simp only [cX]
       refine sy_order [1, 2, 3, 4, 5, 0] rfl rfl ?_
       simp only [oX]
       repeat (first | refine yK ?_ | refine yP ?_ | refine yS 0 ?_ | refine yS 1 ?_ | refine yF ?_)
       refine sy_cells 1 (prtC nm bare z1 ((PS.tok (PS.adv ((qlab x.adv).2)) 2).2.2.2.2) ck cn ca z3 (typV (.mk k a lo hi most ns pp cp parts tn))) rfl rfl ?_
       simp only [prtC, typV, cX]
       refine sy_cells 0 (ptW g (qco (PS.adv (PS.any (PS.adv ((qlab x.adv).2)) 2))).2) rfl rfl ?_
       refine sy_frame [(2, ptr b2), (3, ptr b3), (4, ptr b4), (5, ptr b5)] ⟨zz, zz, zz, zz, trivial⟩ ?_
       simp only [List.set_cons_zero, List.set_cons_succ]
       refine sy_drawE _ 3 [(0, false), (1, false), (2, true)] (by kernel_rfl) rfl ((sk (sk nl))) ?_
       repeat (first | refine dre_rd (fun _ _ => ov_ld 0 rfl rfl rfl) rfl ?_ | refine dre_rd (fun _ _ => ov_ld 1 rfl rfl rfl) rfl ?_ | (refine dre_ef rfl ?_; refine yS 2 ?_; refine dre_ek (by repeat first | exact sr | apply sk | apply sd) ?_) | refine dre_end ?_)
       refine sy_cells 2 (prtC nm bare z1 ((PS.tok (PS.adv ((qlab x.adv).2)) 2).2.2.2.2) ck cn ca z3 (typV (.mk k a lo hi most ns pp cp parts tn))) rfl (upd0 _ _ rfl) ?_
       repeat (first | refine yK ?_ | refine yS 3 ?_ | refine sy_rt ?_)
       exact ret_ccw 2 3 rfl rfl rfl rfl rfl rfl rfl rfl rfl fun w' hw' => ⟨_, _, ⟨z1, ((PS.tok (PS.adv ((qlab x.adv).2)) 2).2.2.2.2), ck, cn, ca, z3, rfl, by rw [hz1, hz3], rfl⟩, rfl, hw'.weaken (sd (sd (sd (sd sr))))⟩
     · have e3 : qsee (PS.any (PS.adv ((qlab x.adv).2)) 2) = (zco, (PS.any (PS.adv ((qlab x.adv).2)) 2)) := if_neg h3
       have h3 : PS.mayB (PS.any (PS.adv ((qlab x.adv).2)) 2) [126] = false := by simpa using h3
       unfold qmk
       rw [e1]
       simp only
       rw [e2]
       simp only
       rw [e3]
       refine sy_enter rfl rfl ?_
       simp only [initFr]
       repeat (first | refine yK ?_ | refine yL 3 ?_ | (refine yX ?_; intro _) | (refine yA ?_; intro _))
       rename_i b2 b3 b4 b5
       refine sy_order [3, 2, 1, 0] rfl rfl ?_
       simp only [oX]
       refine sy_ov (ov_call rfl (fun w hw => rq_may g x w hx (hst.at hw) [64])) rfl rfl ?_
       rw [h1, show x.may [64] = x.adv from if_pos h1]
       repeat (first | refine yK ?_ | refine yP ?_ | refine yL 0 ?_ | refine yS 0 ?_ | refine yT ?_)
       refine sy_callN rfl rfl (fun w hw => rq_label g _ w a1.ok (by omega) ((hst.at hw).on a1.on)) ?_
       rintro _ _ ⟨z1, rfl, hz1, rfl⟩
       simp only [cX]
       refine sy_order [1, 2, 3, 4, 0] rfl rfl ?_
       simp only [oX]
       repeat (first | refine yK ?_ | refine yP ?_ | refine yL 0 ?_ | refine yS 0 ?_ | refine yS 1 ?_ | refine yF ?_)
       refine sy_cells 1 (prtC nm bare z1 0 0 0 0 ws0 (typV (.mk k a lo hi most ns pp cp parts tn))) rfl rfl ?_
       simp only [prtC, typV, cX]
       refine sy_cells 0 (ptW g ((qlab x.adv).2)) rfl rfl ?_
       refine sy_frame [(2, ptr b2), (3, ptr b3), (4, ptr b4), (5, ptr b5), (24, .agg ⟨ptW g ((qlab x.adv).2)⟩)] ⟨zz, zz, zz, zz, zz, trivial⟩ ?_
       simp only [List.set_cons_zero, List.set_cons_succ]
       refine sy_ov (ov_call rfl (fun w hw => rq_may g ((qlab x.adv).2) w (a2).ok ((hst.at hw).on (a2).on) [35])) rfl rfl ?_
       rw [h2, show PS.may ((qlab x.adv).2) [35] = PS.adv ((qlab x.adv).2) from if_pos h2]
       repeat (first | refine yK ?_ | refine yP ?_ | refine yL 0 ?_ | refine yS 0 ?_ | refine yT ?_)
       refine sy_ov (ov_call rfl (fun w hw => rq_any g _ w b1.ok ((hst.at hw).on ((a2).trans b1).on) 2 (by decide))) rfl rfl ?_
       repeat (first | refine yK ?_ | refine yP ?_ | refine yL 0 ?_ | refine yL 1 ?_ | refine yL 2 ?_ | refine yS 0 ?_ | refine yS 1 ?_ | refine yS 2 ?_ | refine yS 3 ?_ | refine yF ?_ | (refine yA ?_; intro _))
       refine sy_weaken (fun _ _ h => h) (sd (sd sr)) ?_
       refine sy_cells 1 (prtC nm bare z1 ((PS.tok (PS.adv ((qlab x.adv).2)) 2).2.2.2.2) 0 0 0 ws0 (typV (.mk k a lo hi most ns pp cp parts tn))) rfl rfl ?_
       simp only [prtC, typV, cX]
       skip
       refine sy_cells 0 (ptW g (PS.any (PS.adv ((qlab x.adv).2)) 2)) rfl rfl ?_
       refine sy_frame [(2, ptr b2), (3, ptr b3), (4, ptr b4), (5, ptr b5), (39, .agg ⟨ptW g (PS.any (PS.adv ((qlab x.adv).2)) 2)⟩)] ⟨zz, zz, zz, zz, zz, trivial⟩ ?_
       simp only [List.set_cons_zero, List.set_cons_succ]
       refine sy_ov (ov_call rfl (fun w hw => rq_may g (PS.any (PS.adv ((qlab x.adv).2)) 2) w (qb2).ok ((hst.at hw).on (qb2).on) [126])) rfl rfl ?_
       rw [h3, show PS.may (PS.any (PS.adv ((qlab x.adv).2)) 2) [126] = (PS.any (PS.adv ((qlab x.adv).2)) 2) from if_neg (by rw [h3]; decide)]
       repeat (first | refine yK ?_ | refine yP ?_ | refine yS 0 ?_ | refine yN ?_)
       refine sy_ws0 ?_
       refine sy_order [1, 2, 3, 4, 5, 0] rfl rfl ?_
       simp only [oX]
       skip
       refine sy_cells 0 (ptW g (PS.any (PS.adv ((qlab x.adv).2)) 2)) rfl rfl ?_
       refine sy_frame [(2, ptr b2), (3, ptr b3), (4, ptr b4), (5, ptr b5)] ⟨zz, zz, zz, zz, trivial⟩ ?_
       simp only [List.set_cons_zero, List.set_cons_succ]
       refine sy_drawE _ 3 [(0, false), (1, false), (2, true)] (by kernel_rfl) rfl ((sk (sk nl))) ?_
       repeat (first | refine dre_rd (fun _ _ => ov_ld 0 rfl rfl rfl) rfl ?_ | refine dre_rd (fun _ _ => ov_ld 1 rfl rfl rfl) rfl ?_ | (refine dre_ef rfl ?_; refine yS 2 ?_; refine dre_ek (by repeat first | exact sr | apply sk | apply sd) ?_) | refine dre_end ?_)
       refine sy_cells 2 (prtC nm bare z1 ((PS.tok (PS.adv ((qlab x.adv).2)) 2).2.2.2.2) 0 0 0 ws0 (typV (.mk k a lo hi most ns pp cp parts tn))) rfl (upd0 _ _ rfl) ?_
       repeat (first | refine yK ?_ | refine yS 3 ?_ | refine sy_rt ?_)
       exact ret_ccw 2 3 rfl rfl rfl rfl rfl rfl rfl rfl rfl fun w' hw' => ⟨_, _, ⟨z1, ((PS.tok (PS.adv ((qlab x.adv).2)) 2).2.2.2.2), 0, 0, 0, ws0, rfl, by rw [hz1]; rfl, rfl⟩, rfl, hw'.weaken (sd (sd (sd (sd sr))))⟩
   · have e2 : qwid ((qlab x.adv).2) = (0, ((qlab x.adv).2)) := if_neg h2
     have h2 : PS.mayB ((qlab x.adv).2) [35] = false := by simpa using h2
     by_cases h3 : PS.mayB ((qlab x.adv).2) [126] = true
     · have c1 := QA.adv (a2).ok h3
       have e3 : qsee ((qlab x.adv).2) = qco (PS.adv ((qlab x.adv).2)) := if_pos h3
       unfold qmk
       rw [e1]
       simp only
       rw [e2]
       simp only
       rw [e3]
       refine sy_enter rfl rfl ?_
       simp only [initFr]
       repeat (first | refine yK ?_ | refine yL 3 ?_ | (refine yX ?_; intro _) | (refine yA ?_; intro _))
       rename_i b2 b3 b4 b5
       refine sy_order [3, 2, 1, 0] rfl rfl ?_
       simp only [oX]
       refine sy_ov (ov_call rfl (fun w hw => rq_may g x w hx (hst.at hw) [64])) rfl rfl ?_
       rw [h1, show x.may [64] = x.adv from if_pos h1]
       repeat (first | refine yK ?_ | refine yP ?_ | refine yL 0 ?_ | refine yS 0 ?_ | refine yT ?_)
       refine sy_callN rfl rfl (fun w hw => rq_label g _ w a1.ok (by omega) ((hst.at hw).on a1.on)) ?_
       rintro _ _ ⟨z1, rfl, hz1, rfl⟩
       simp only [cX]
       refine sy_order [1, 2, 3, 4, 0] rfl rfl ?_
       simp only [oX]
       repeat (first | refine yK ?_ | refine yP ?_ | refine yL 0 ?_ | refine yS 0 ?_ | refine yS 1 ?_ | refine yF ?_)
       refine sy_cells 1 (prtC nm bare z1 0 0 0 0 ws0 (typV (.mk k a lo hi most ns pp cp parts tn))) rfl rfl ?_
       simp only [prtC, typV, cX]
       refine sy_cells 0 (ptW g ((qlab x.adv).2)) rfl rfl ?_
       refine sy_frame [(2, ptr b2), (3, ptr b3), (4, ptr b4), (5, ptr b5), (24, .agg ⟨ptW g ((qlab x.adv).2)⟩)] ⟨zz, zz, zz, zz, zz, trivial⟩ ?_
       simp only [List.set_cons_zero, List.set_cons_succ]
       refine sy_ov (ov_call rfl (fun w hw => rq_may g ((qlab x.adv).2) w (a2).ok ((hst.at hw).on (a2).on) [35])) rfl rfl ?_
       rw [h2, show PS.may ((qlab x.adv).2) [35] = ((qlab x.adv).2) from if_neg (by rw [h2]; decide)]
       repeat (first | refine yK ?_ | refine yP ?_ | refine yL 0 ?_ | refine yS 0 ?_ | refine yN ?_)
       refine sy_cells 0 (ptW g ((qlab x.adv).2)) rfl rfl ?_
       refine sy_frame [(2, ptr b2), (3, ptr b3), (4, ptr b4), (5, ptr b5), (39, .agg ⟨ptW g ((qlab x.adv).2)⟩)] ⟨zz, zz, zz, zz, zz, trivial⟩ ?_
       simp only [List.set_cons_zero, List.set_cons_succ]
       refine sy_ov (ov_call rfl (fun w hw => rq_may g ((qlab x.adv).2) w (a2).ok ((hst.at hw).on (a2).on) [126])) rfl rfl ?_
       rw [h3, show PS.may ((qlab x.adv).2) [126] = PS.adv ((qlab x.adv).2) from if_pos h3]
       repeat (first | refine yK ?_ | refine yP ?_ | refine yL 0 ?_ | refine yS 0 ?_ | refine yT ?_)
       refine sy_callN rfl rfl (fun w hw => rq_coarse g _ w c1.ok (by have := ((a2).trans c1).len; omega) ((hst.at hw).on ((a2).trans c1).on)) ?_
       rintro _ _ ⟨ck, cn, ca, z3, rfl, hz3, rfl⟩
       simp only [cX]
       refine sy_order [1, 2, 3, 4, 5, 0] rfl rfl ?_
       simp only [oX]
       repeat (first | refine yK ?_ | refine yP ?_ | refine yS 0 ?_ | refine yS 1 ?_ | refine yF ?_)
       refine sy_cells 1 (prtC nm bare z1 0 ck cn ca z3 (typV (.mk k a lo hi most ns pp cp parts tn))) rfl rfl ?_
       simp only [prtC, typV, cX]
       refine sy_cells 0 (ptW g (qco (PS.adv ((qlab x.adv).2))).2) rfl rfl ?_
       refine sy_frame [(2, ptr b2), (3, ptr b3), (4, ptr b4), (5, ptr b5)] ⟨zz, zz, zz, zz, trivial⟩ ?_
       simp only [List.set_cons_zero, List.set_cons_succ]
       refine sy_drawE _ 3 [(0, false), (1, false), (2, true)] (by kernel_rfl) rfl ((sk (sk nl))) ?_
       repeat (first | refine dre_rd (fun _ _ => ov_ld 0 rfl rfl rfl) rfl ?_ | refine dre_rd (fun _ _ => ov_ld 1 rfl rfl rfl) rfl ?_ | (refine dre_ef rfl ?_; refine yS 2 ?_; refine dre_ek (by repeat first | exact sr | apply sk | apply sd) ?_) | refine dre_end ?_)
       refine sy_cells 2 (prtC nm bare z1 0 ck cn ca z3 (typV (.mk k a lo hi most ns pp cp parts tn))) rfl (upd0 _ _ rfl) ?_
       repeat (first | refine yK ?_ | refine yS 3 ?_ | refine sy_rt ?_)
       exact ret_ccw 2 3 rfl rfl rfl rfl rfl rfl rfl rfl rfl fun w' hw' => ⟨_, _, ⟨z1, 0, ck, cn, ca, z3, rfl, by rw [hz1, hz3], rfl⟩, rfl, hw'.weaken (sd (sd (sd (sd sr))))⟩
     · have e3 : qsee ((qlab x.adv).2) = (zco, ((qlab x.adv).2)) := if_neg h3
       have h3 : PS.mayB ((qlab x.adv).2) [126] = false := by simpa using h3
       unfold qmk
       rw [e1]
       simp only
       rw [e2]
       simp only
       rw [e3]
       refine sy_enter rfl rfl ?_
       simp only [initFr]
       repeat (first | refine yK ?_ | refine yL 3 ?_ | (refine yX ?_; intro _) | (refine yA ?_; intro _))
       rename_i b2 b3 b4 b5
       refine sy_order [3, 2, 1, 0] rfl rfl ?_
       simp only [oX]
       refine sy_ov (ov_call rfl (fun w hw => rq_may g x w hx (hst.at hw) [64])) rfl rfl ?_
       rw [h1, show x.may [64] = x.adv from if_pos h1]
       repeat (first | refine yK ?_ | refine yP ?_ | refine yL 0 ?_ | refine yS 0 ?_ | refine yT ?_)
       refine sy_callN rfl rfl (fun w hw => rq_label g _ w a1.ok (by omega) ((hst.at hw).on a1.on)) ?_
       rintro _ _ ⟨z1, rfl, hz1, rfl⟩
       simp only [cX]
       refine sy_order [1, 2, 3, 4, 0] rfl rfl ?_
       simp only [oX]
       repeat (first | refine yK ?_ | refine yP ?_ | refine yL 0 ?_ | refine yS 0 ?_ | refine yS 1 ?_ | refine yF ?_)
       refine sy_cells 1 (prtC nm bare z1 0 0 0 0 ws0 (typV (.mk k a lo hi most ns pp cp parts tn))) rfl rfl ?_
       simp only [prtC, typV, cX]
       refine sy_cells 0 (ptW g ((qlab x.adv).2)) rfl rfl ?_
       refine sy_frame [(2, ptr b2), (3, ptr b3), (4, ptr b4), (5, ptr b5), (24, .agg ⟨ptW g ((qlab x.adv).2)⟩)] ⟨zz, zz, zz, zz, zz, trivial⟩ ?_
       simp only [List.set_cons_zero, List.set_cons_succ]
       refine sy_ov (ov_call rfl (fun w hw => rq_may g ((qlab x.adv).2) w (a2).ok ((hst.at hw).on (a2).on) [35])) rfl rfl ?_
       rw [h2, show PS.may ((qlab x.adv).2) [35] = ((qlab x.adv).2) from if_neg (by rw [h2]; decide)]
       repeat (first | refine yK ?_ | refine yP ?_ | refine yL 0 ?_ | refine yS 0 ?_ | refine yN ?_)
       refine sy_cells 0 (ptW g ((qlab x.adv).2)) rfl rfl ?_
       refine sy_frame [(2, ptr b2), (3, ptr b3), (4, ptr b4), (5, ptr b5), (39, .agg ⟨ptW g ((qlab x.adv).2)⟩)] ⟨zz, zz, zz, zz, zz, trivial⟩ ?_
       simp only [List.set_cons_zero, List.set_cons_succ]
       refine sy_ov (ov_call rfl (fun w hw => rq_may g ((qlab x.adv).2) w (a2).ok ((hst.at hw).on (a2).on) [126])) rfl rfl ?_
       rw [h3, show PS.may ((qlab x.adv).2) [126] = ((qlab x.adv).2) from if_neg (by rw [h3]; decide)]
       repeat (first | refine yK ?_ | refine yP ?_ | refine yS 0 ?_ | refine yN ?_)
       refine sy_ws0 ?_
       refine sy_order [1, 2, 3, 4, 5, 0] rfl rfl ?_
       simp only [oX]
       skip
       refine sy_cells 0 (ptW g ((qlab x.adv).2)) rfl rfl ?_
       refine sy_frame [(2, ptr b2), (3, ptr b3), (4, ptr b4), (5, ptr b5)] ⟨zz, zz, zz, zz, trivial⟩ ?_
       simp only [List.set_cons_zero, List.set_cons_succ]
       refine sy_drawE _ 3 [(0, false), (1, false), (2, true)] (by kernel_rfl) rfl ((sk (sk nl))) ?_
       repeat (first | refine dre_rd (fun _ _ => ov_ld 0 rfl rfl rfl) rfl ?_ | refine dre_rd (fun _ _ => ov_ld 1 rfl rfl rfl) rfl ?_ | (refine dre_ef rfl ?_; refine yS 2 ?_; refine dre_ek (by repeat first | exact sr | apply sk | apply sd) ?_) | refine dre_end ?_)
       refine sy_cells 2 (prtC nm bare z1 0 0 0 0 ws0 (typV (.mk k a lo hi most ns pp cp parts tn))) rfl (upd0 _ _ rfl) ?_
       repeat (first | refine yK ?_ | refine yS 3 ?_ | refine sy_rt ?_)
       exact ret_ccw 2 3 rfl rfl rfl rfl rfl rfl rfl rfl rfl fun w' hw' => ⟨_, _, ⟨z1, 0, 0, 0, 0, ws0, rfl, by rw [hz1]; rfl, rfl⟩, rfl, hw'.weaken (sd (sd (sd (sd sr))))⟩
 · have e1 : qatL x = ([], x) := if_neg h1
   have h1 : x.mayB [64] = false := by simpa using h1
   by_cases h2 : PS.mayB x [35] = true
   · have b1 := QA.adv (qr).ok h2
     have qb2 := (qr).trans (b1.trans (QA.any b1.ok (by decide : (2 : Int) ≠ 0)))
     have e2 : qwid x = ((PS.tok (PS.adv x) 2).2.2.2.2, PS.any (PS.adv x) 2) := if_pos h2
     by_cases h3 : PS.mayB (PS.any (PS.adv x) 2) [126] = true
     · have c1 := QA.adv (qb2).ok h3
       have e3 : qsee (PS.any (PS.adv x) 2) = qco (PS.adv (PS.any (PS.adv x) 2)) := if_pos h3
       unfold qmk
       rw [e1]
       simp only
       rw [e2]
       simp only
       rw [e3]
       refine sy_enter rfl rfl ?_
       simp only [initFr]
       repeat (first | refine yK ?_ | refine yL 3 ?_ | (refine yX ?_; intro _) | (refine yA ?_; intro _))
       rename_i b2 b3 b4 b5
       refine sy_order [3, 2, 1, 0] rfl rfl ?_
       simp only [oX]
       refine sy_ov (ov_call rfl (fun w hw => rq_may g x w hx (hst.at hw) [64])) rfl rfl ?_
       rw [h1, show x.may [64] = x from if_neg (by rw [h1]; decide)]
       repeat (first | refine yK ?_ | refine yP ?_ | refine yL 0 ?_ | refine yS 0 ?_ | refine yN ?_)
       have hz1 : ws0.l = [] := rfl
       refine sy_ws0 ?_
       refine sy_order [1, 2, 3, 4, 0] rfl rfl ?_
       simp only [oX]
       skip
       refine sy_cells 0 (ptW g x) rfl rfl ?_
       refine sy_frame [(2, ptr b2), (3, ptr b3), (4, ptr b4), (5, ptr b5), (24, .agg ⟨ptW g x⟩)] ⟨zz, zz, zz, zz, zz, trivial⟩ ?_
       simp only [List.set_cons_zero, List.set_cons_succ]
       refine sy_ov (ov_call rfl (fun w hw => rq_may g x w (qr).ok ((hst.at hw).on (qr).on) [35])) rfl rfl ?_
       rw [h2, show PS.may x [35] = PS.adv x from if_pos h2]
       repeat (first | refine yK ?_ | refine yP ?_ | refine yL 0 ?_ | refine yS 0 ?_ | refine yT ?_)
       refine sy_ov (ov_call rfl (fun w hw => rq_any g _ w b1.ok ((hst.at hw).on ((qr).trans b1).on) 2 (by decide))) rfl rfl ?_
       repeat (first | refine yK ?_ | refine yP ?_ | refine yL 0 ?_ | refine yL 1 ?_ | refine yL 2 ?_ | refine yS 0 ?_ | refine yS 1 ?_ | refine yS 2 ?_ | refine yS 3 ?_ | refine yF ?_ | (refine yA ?_; intro _))
       refine sy_weaken (fun _ _ h => h) (sd (sd sr)) ?_
       refine sy_cells 1 (prtC nm bare ws0 ((PS.tok (PS.adv x) 2).2.2.2.2) 0 0 0 ws0 (typV (.mk k a lo hi most ns pp cp parts tn))) rfl rfl ?_
       simp only [prtC, typV, cX]
       skip
       refine sy_cells 0 (ptW g (PS.any (PS.adv x) 2)) rfl rfl ?_
       refine sy_frame [(2, ptr b2), (3, ptr b3), (4, ptr b4), (5, ptr b5), (39, .agg ⟨ptW g (PS.any (PS.adv x) 2)⟩)] ⟨zz, zz, zz, zz, zz, trivial⟩ ?_
       simp only [List.set_cons_zero, List.set_cons_succ]
       refine sy_ov (ov_call rfl (fun w hw => rq_may g (PS.any (PS.adv x) 2) w (qb2).ok ((hst.at hw).on (qb2).on) [126])) rfl rfl ?_
       rw [h3, show PS.may (PS.any (PS.adv x) 2) [126] = PS.adv (PS.any (PS.adv x) 2) from if_pos h3]
       repeat (first | refine yK ?_ | refine yP ?_ | refine yL 0 ?_ | refine yS 0 ?_ | refine yT ?_)
       refine sy_callN rfl rfl (fun w hw => rq_coarse g _ w c1.ok (by have := ((qb2).trans c1).len; omega) ((hst.at hw).on ((qb2).trans c1).on)) ?_
       rintro _ _ ⟨ck, cn, ca, z3, rfl, hz3, rfl⟩
       simp only [cX]
       refine sy_order [1, 2, 3, 4, 5, 0] rfl rfl ?_
       simp only [oX]
       repeat (first | refine yK ?_ | refine yP ?_ | refine yS 0 ?_ | refine yS 1 ?_ | refine yF ?_)
       refine sy_cells 1 (prtC nm bare ws0 ((PS.tok (PS.adv x) 2).2.2.2.2) ck cn ca z3 (typV (.mk k a lo hi most ns pp cp parts tn))) rfl rfl ?_
       simp only [prtC, typV, cX]
       refine sy_cells 0 (ptW g (qco (PS.adv (PS.any (PS.adv x) 2))).2) rfl rfl ?_
       refine sy_frame [(2, ptr b2), (3, ptr b3), (4, ptr b4), (5, ptr b5)] ⟨zz, zz, zz, zz, trivial⟩ ?_
       simp only [List.set_cons_zero, List.set_cons_succ]
       refine sy_drawE _ 3 [(0, false), (1, false), (2, true)] (by kernel_rfl) rfl ((sk (sk nl))) ?_
       repeat (first | refine dre_rd (fun _ _ => ov_ld 0 rfl rfl rfl) rfl ?_ | refine dre_rd (fun _ _ => ov_ld 1 rfl rfl rfl) rfl ?_ | (refine dre_ef rfl ?_; refine yS 2 ?_; refine dre_ek (by repeat first | exact sr | apply sk | apply sd) ?_) | refine dre_end ?_)
       refine sy_cells 2 (prtC nm bare ws0 ((PS.tok (PS.adv x) 2).2.2.2.2) ck cn ca z3 (typV (.mk k a lo hi most ns pp cp parts tn))) rfl (upd0 _ _ rfl) ?_
       repeat (first | refine yK ?_ | refine yS 3 ?_ | refine sy_rt ?_)
       exact ret_ccw 2 3 rfl rfl rfl rfl rfl rfl rfl rfl rfl fun w' hw' => ⟨_, _, ⟨ws0, ((PS.tok (PS.adv x) 2).2.2.2.2), ck, cn, ca, z3, rfl, by rw [hz1, hz3], rfl⟩, rfl, hw'.weaken (sd (sd (sd (sd sr))))⟩
     · have e3 : qsee (PS.any (PS.adv x) 2) = (zco, (PS.any (PS.adv x) 2)) := if_neg h3
       have h3 : PS.mayB (PS.any (PS.adv x) 2) [126] = false := by simpa using h3
       unfold qmk
       rw [e1]
       simp only
       rw [e2]
       simp only
       rw [e3]
       refine sy_enter rfl rfl ?_
       simp only [initFr]
       repeat (first | refine yK ?_ | refine yL 3 ?_ | (refine yX ?_; intro _) | (refine yA ?_; intro _))
       rename_i b2 b3 b4 b5
       refine sy_order [3, 2, 1, 0] rfl rfl ?_
       simp only [oX]
       refine sy_ov (ov_call rfl (fun w hw => rq_may g x w hx (hst.at hw) [64])) rfl rfl ?_
       rw [h1, show x.may [64] = x from if_neg (by rw [h1]; decide)]
       repeat (first | refine yK ?_ | refine yP ?_ | refine yL 0 ?_ | refine yS 0 ?_ | refine yN ?_)
       have hz1 : ws0.l = [] := rfl
       refine sy_ws0 ?_
       refine sy_order [1, 2, 3, 4, 0] rfl rfl ?_
       simp only [oX]
       skip
       refine sy_cells 0 (ptW g x) rfl rfl ?_
       refine sy_frame [(2, ptr b2), (3, ptr b3), (4, ptr b4), (5, ptr b5), (24, .agg ⟨ptW g x⟩)] ⟨zz, zz, zz, zz, zz, trivial⟩ ?_
       simp only [List.set_cons_zero, List.set_cons_succ]
       refine sy_ov (ov_call rfl (fun w hw => rq_may g x w (qr).ok ((hst.at hw).on (qr).on) [35])) rfl rfl ?_
       rw [h2, show PS.may x [35] = PS.adv x from if_pos h2]
       repeat (first | refine yK ?_ | refine yP ?_ | refine yL 0 ?_ | refine yS 0 ?_ | refine yT ?_)
       refine sy_ov (ov_call rfl (fun w hw => rq_any g _ w b1.ok ((hst.at hw).on ((qr).trans b1).on) 2 (by decide))) rfl rfl ?_
       repeat (first | refine yK ?_ | refine yP ?_ | refine yL 0 ?_ | refine yL 1 ?_ | refine yL 2 ?_ | refine yS 0 ?_ | refine yS 1 ?_ | refine yS 2 ?_ | refine yS 3 ?_ | refine yF ?_ | (refine yA ?_; intro _))
       refine sy_weaken (fun _ _ h => h) (sd (sd sr)) ?_
       refine sy_cells 1 (prtC nm bare ws0 ((PS.tok (PS.adv x) 2).2.2.2.2) 0 0 0 ws0 (typV (.mk k a lo hi most ns pp cp parts tn))) rfl rfl ?_
       simp only [prtC, typV, cX]
       skip
       refine sy_cells 0 (ptW g (PS.any (PS.adv x) 2)) rfl rfl ?_
       refine sy_frame [(2, ptr b2), (3, ptr b3), (4, ptr b4), (5, ptr b5), (39, .agg ⟨ptW g (PS.any (PS.adv x) 2)⟩)] ⟨zz, zz, zz, zz, zz, trivial⟩ ?_
       simp only [List.set_cons_zero, List.set_cons_succ]
       refine sy_ov (ov_call rfl (fun w hw => rq_may g (PS.any (PS.adv x) 2) w (qb2).ok ((hst.at hw).on (qb2).on) [126])) rfl rfl ?_
       rw [h3, show PS.may (PS.any (PS.adv x) 2) [126] = (PS.any (PS.adv x) 2) from if_neg (by rw [h3]; decide)]
       repeat (first | refine yK ?_ | refine yP ?_ | refine yS 0 ?_ | refine yN ?_)
       refine sy_ws0 ?_
       refine sy_order [1, 2, 3, 4, 5, 0] rfl rfl ?_
       simp only [oX]
       skip
       refine sy_cells 0 (ptW g (PS.any (PS.adv x) 2)) rfl rfl ?_
       refine sy_frame [(2, ptr b2), (3, ptr b3), (4, ptr b4), (5, ptr b5)] ⟨zz, zz, zz, zz, trivial⟩ ?_
       simp only [List.set_cons_zero, List.set_cons_succ]
       refine sy_drawE _ 3 [(0, false), (1, false), (2, true)] (by kernel_rfl) rfl ((sk (sk nl))) ?_
       repeat (first | refine dre_rd (fun _ _ => ov_ld 0 rfl rfl rfl) rfl ?_ | refine dre_rd (fun _ _ => ov_ld 1 rfl rfl rfl) rfl ?_ | (refine dre_ef rfl ?_; refine yS 2 ?_; refine dre_ek (by repeat first | exact sr | apply sk | apply sd) ?_) | refine dre_end ?_)
       refine sy_cells 2 (prtC nm bare ws0 ((PS.tok (PS.adv x) 2).2.2.2.2) 0 0 0 ws0 (typV (.mk k a lo hi most ns pp cp parts tn))) rfl (upd0 _ _ rfl) ?_
       repeat (first | refine yK ?_ | refine yS 3 ?_ | refine sy_rt ?_)
       exact ret_ccw 2 3 rfl rfl rfl rfl rfl rfl rfl rfl rfl fun w' hw' => ⟨_, _, ⟨ws0, ((PS.tok (PS.adv x) 2).2.2.2.2), 0, 0, 0, ws0, rfl, by rw [hz1]; rfl, rfl⟩, rfl, hw'.weaken (sd (sd (sd (sd sr))))⟩
   · have e2 : qwid x = (0, x) := if_neg h2
     have h2 : PS.mayB x [35] = false := by simpa using h2
     by_cases h3 : PS.mayB x [126] = true
     · have c1 := QA.adv (qr).ok h3
       have e3 : qsee x = qco (PS.adv x) := if_pos h3
       unfold qmk
       rw [e1]
       simp only
       rw [e2]
       simp only
       rw [e3]
       refine sy_enter rfl rfl ?_
       simp only [initFr]
       repeat (first | refine yK ?_ | refine yL 3 ?_ | (refine yX ?_; intro _) | (refine yA ?_; intro _))
       rename_i b2 b3 b4 b5
       refine sy_order [3, 2, 1, 0] rfl rfl ?_
       simp only [oX]
       refine sy_ov (ov_call rfl (fun w hw => rq_may g x w hx (hst.at hw) [64])) rfl rfl ?_
       rw [h1, show x.may [64] = x from if_neg (by rw [h1]; decide)]
       repeat (first | refine yK ?_ | refine yP ?_ | refine yL 0 ?_ | refine yS 0 ?_ | refine yN ?_)
       have hz1 : ws0.l = [] := rfl
       refine sy_ws0 ?_
       refine sy_order [1, 2, 3, 4, 0] rfl rfl ?_
       simp only [oX]
       skip
       refine sy_cells 0 (ptW g x) rfl rfl ?_
       refine sy_frame [(2, ptr b2), (3, ptr b3), (4, ptr b4), (5, ptr b5), (24, .agg ⟨ptW g x⟩)] ⟨zz, zz, zz, zz, zz, trivial⟩ ?_
       simp only [List.set_cons_zero, List.set_cons_succ]
       refine sy_ov (ov_call rfl (fun w hw => rq_may g x w (qr).ok ((hst.at hw).on (qr).on) [35])) rfl rfl ?_
       rw [h2, show PS.may x [35] = x from if_neg (by rw [h2]; decide)]
       repeat (first | refine yK ?_ | refine yP ?_ | refine yL 0 ?_ | refine yS 0 ?_ | refine yN ?_)
       refine sy_cells 0 (ptW g x) rfl rfl ?_
       refine sy_frame [(2, ptr b2), (3, ptr b3), (4, ptr b4), (5, ptr b5), (39, .agg ⟨ptW g x⟩)] ⟨zz, zz, zz, zz, zz, trivial⟩ ?_
       simp only [List.set_cons_zero, List.set_cons_succ]
       refine sy_ov (ov_call rfl (fun w hw => rq_may g x w (qr).ok ((hst.at hw).on (qr).on) [126])) rfl rfl ?_
       rw [h3, show PS.may x [126] = PS.adv x from if_pos h3]
       repeat (first | refine yK ?_ | refine yP ?_ | refine yL 0 ?_ | refine yS 0 ?_ | refine yT ?_)
       refine sy_callN rfl rfl (fun w hw => rq_coarse g _ w c1.ok (by have := ((qr).trans c1).len; omega) ((hst.at hw).on ((qr).trans c1).on)) ?_
       rintro _ _ ⟨ck, cn, ca, z3, rfl, hz3, rfl⟩
       simp only [cX]
       refine sy_order [1, 2, 3, 4, 5, 0] rfl rfl ?_
       simp only [oX]
       repeat (first | refine yK ?_ | refine yP ?_ | refine yS 0 ?_ | refine yS 1 ?_ | refine yF ?_)
       refine sy_cells 1 (prtC nm bare ws0 0 ck cn ca z3 (typV (.mk k a lo hi most ns pp cp parts tn))) rfl rfl ?_
       simp only [prtC, typV, cX]
       refine sy_cells 0 (ptW g (qco (PS.adv x)).2) rfl rfl ?_
       refine sy_frame [(2, ptr b2), (3, ptr b3), (4, ptr b4), (5, ptr b5)] ⟨zz, zz, zz, zz, trivial⟩ ?_
       simp only [List.set_cons_zero, List.set_cons_succ]
       refine sy_drawE _ 3 [(0, false), (1, false), (2, true)] (by kernel_rfl) rfl ((sk (sk nl))) ?_
       repeat (first | refine dre_rd (fun _ _ => ov_ld 0 rfl rfl rfl) rfl ?_ | refine dre_rd (fun _ _ => ov_ld 1 rfl rfl rfl) rfl ?_ | (refine dre_ef rfl ?_; refine yS 2 ?_; refine dre_ek (by repeat first | exact sr | apply sk | apply sd) ?_) | refine dre_end ?_)
       refine sy_cells 2 (prtC nm bare ws0 0 ck cn ca z3 (typV (.mk k a lo hi most ns pp cp parts tn))) rfl (upd0 _ _ rfl) ?_
       repeat (first | refine yK ?_ | refine yS 3 ?_ | refine sy_rt ?_)
       exact ret_ccw 2 3 rfl rfl rfl rfl rfl rfl rfl rfl rfl fun w' hw' => ⟨_, _, ⟨ws0, 0, ck, cn, ca, z3, rfl, by rw [hz1, hz3], rfl⟩, rfl, hw'.weaken (sd (sd (sd (sd sr))))⟩
     · have e3 : qsee x = (zco, x) := if_neg h3
       have h3 : PS.mayB x [126] = false := by simpa using h3
       unfold qmk
       rw [e1]
       simp only
       rw [e2]
       simp only
       rw [e3]
       refine sy_enter rfl rfl ?_
       simp only [initFr]
       repeat (first | refine yK ?_ | refine yL 3 ?_ | (refine yX ?_; intro _) | (refine yA ?_; intro _))
       rename_i b2 b3 b4 b5
       refine sy_order [3, 2, 1, 0] rfl rfl ?_
       simp only [oX]
       refine sy_ov (ov_call rfl (fun w hw => rq_may g x w hx (hst.at hw) [64])) rfl rfl ?_
       rw [h1, show x.may [64] = x from if_neg (by rw [h1]; decide)]
       repeat (first | refine yK ?_ | refine yP ?_ | refine yL 0 ?_ | refine yS 0 ?_ | refine yN ?_)
       have hz1 : ws0.l = [] := rfl
       refine sy_ws0 ?_
       refine sy_order [1, 2, 3, 4, 0] rfl rfl ?_
       simp only [oX]
       skip
       refine sy_cells 0 (ptW g x) rfl rfl ?_
       refine sy_frame [(2, ptr b2), (3, ptr b3), (4, ptr b4), (5, ptr b5), (24, .agg ⟨ptW g x⟩)] ⟨zz, zz, zz, zz, zz, trivial⟩ ?_
       simp only [List.set_cons_zero, List.set_cons_succ]
       refine sy_ov (ov_call rfl (fun w hw => rq_may g x w (qr).ok ((hst.at hw).on (qr).on) [35])) rfl rfl ?_
       rw [h2, show PS.may x [35] = x from if_neg (by rw [h2]; decide)]
       repeat (first | refine yK ?_ | refine yP ?_ | refine yL 0 ?_ | refine yS 0 ?_ | refine yN ?_)
       refine sy_cells 0 (ptW g x) rfl rfl ?_
       refine sy_frame [(2, ptr b2), (3, ptr b3), (4, ptr b4), (5, ptr b5), (39, .agg ⟨ptW g x⟩)] ⟨zz, zz, zz, zz, zz, trivial⟩ ?_
       simp only [List.set_cons_zero, List.set_cons_succ]
       refine sy_ov (ov_call rfl (fun w hw => rq_may g x w (qr).ok ((hst.at hw).on (qr).on) [126])) rfl rfl ?_
       rw [h3, show PS.may x [126] = x from if_neg (by rw [h3]; decide)]
       repeat (first | refine yK ?_ | refine yP ?_ | refine yS 0 ?_ | refine yN ?_)
       refine sy_ws0 ?_
       refine sy_order [1, 2, 3, 4, 5, 0] rfl rfl ?_
       simp only [oX]
       skip
       refine sy_cells 0 (ptW g x) rfl rfl ?_
       refine sy_frame [(2, ptr b2), (3, ptr b3), (4, ptr b4), (5, ptr b5)] ⟨zz, zz, zz, zz, trivial⟩ ?_
       simp only [List.set_cons_zero, List.set_cons_succ]
       refine sy_drawE _ 3 [(0, false), (1, false), (2, true)] (by kernel_rfl) rfl ((sk (sk nl))) ?_
       repeat (first | refine dre_rd (fun _ _ => ov_ld 0 rfl rfl rfl) rfl ?_ | refine dre_rd (fun _ _ => ov_ld 1 rfl rfl rfl) rfl ?_ | (refine dre_ef rfl ?_; refine yS 2 ?_; refine dre_ek (by repeat first | exact sr | apply sk | apply sd) ?_) | refine dre_end ?_)
       refine sy_cells 2 (prtC nm bare ws0 0 0 0 0 ws0 (typV (.mk k a lo hi most ns pp cp parts tn))) rfl (upd0 _ _ rfl) ?_
       repeat (first | refine yK ?_ | refine yS 3 ?_ | refine sy_rt ?_)
       exact ret_ccw 2 3 rfl rfl rfl rfl rfl rfl rfl rfl rfl fun w' hw' => ⟨_, _, ⟨ws0, 0, 0, 0, 0, ws0, rfl, by rw [hz1]; rfl, rfl⟩, rfl, hw'.weaken (sd (sd (sd (sd sr))))⟩
end
end Go.Proofs.YtldjakeigjngoaaGreat