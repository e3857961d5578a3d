/- BRX: texts of this proof, joined by program: RefX, RefX2, RefX3, RefY. -/
import Derived.Test.YtldjakeigjngoaaGreatRefWQ
import Derived.Test.YtldjakeigjngoaaGreatBRR
import Derived.Test.YtldjakeigjngoaaGreatBTR
/- Contract: a value, as the document reads it: values with others in them; the value of a text. -/
set_option linter.unusedVariables false
set_option linter.unusedSimpArgs false
namespace Go.Proofs.YtldjakeigjngoaaGreat
open Go.RowKit Bf
set_option maxRecDepth 20000 in
set_option maxHeartbeats 8000000 in
theorem rval_lst (d : Nat) (hV : VSpec d) (g : Nat) (x : PS) (hx : x.Ok) (m0 : 0 ≤ x.m) (m1 : x.m ≤ 4096) (hl : x.l.length ≤ 65537) (he : x.e = 0) (hd : d < 24) (hm : x.m ≠ 4096) (hA : mkB x.l [91] = true) (w : World) (hT : TkAt g x w) : RQ g x (d + 1) w (24 - d) := by
 unfold RQ
 have hst : St (fun _ => False) w (fun w => TkAt g x w) := St.start (TkAt.bl g x) hT
 obtain ⟨t, ht, hh⟩ := hx.hd
 have hne := hx.ne
 have hov := v_list (d := d) he hm hh hA
 have hx1 : x.one.Ok := hx.one
 have hst1 : St (fun _ => False) w (fun w => TkAt g x.one w) := hst
 have hma := fun w h => rp_may g x.one hx1 [91] w h
 have hmb := fun w h => rp_may g x.one hx1 [123] w h
 have hb1 : x.one.mayB [91] = mkB x.l [91] := mayB_ok (x := x.one) he [91]
 have hb2 : x.one.mayB [123] = mkB x.l [123] := mayB_ok (x := x.one) he [123]
 have hm41 : x.m < 4096 := by omega
 have hb3 : x.one.mayB [91] = true := by rw [hb1]; exact hA
 have hadv : x.one.adv.Ok := hx1.adv (PS.mayB_hd hb3).2.2
 have hoa : x.On x.one.adv := (PS.On.one x).trans (.adv _)
 have hrows := fun w h => rrows_list d hV g x.one.adv hadv he (by show 0 ≤ x.m + 1; omega) (by show x.m + 1 ≤ 4096; omega) (hoa.len65 hl) (by omega) 4 t.2.1 w h
 rw [hb3, show x.one.may [91] = x.one.adv from if_pos hb3] at hma
 refine sy_enter rfl rfl ?_
 simp only [initFr]
 repeat (first | refine sy_k rfl rfl ?_ | (refine gO ?_; first | (refine gL ?_; refine sy_ov (ov_ld 2 rfl rfl rfl) rfl rfl ?_) | (refine sy_box rfl rfl rfl ?_; intro _) | (refine sy_alloc rfl rfl rfl ?_; intro _)))
 refine sy_ov (ov_call rfl (fun w _ => rp_fine g x true (by simp [he]) w)) rfl rfl ?_
 repeat (first | refine sy_k rfl rfl ?_ | (refine gO ?_; first | refine sy_ov (ov_p rfl) rfl rfl ?_ | (refine gL ?_; refine sy_ov (ov_ld 2 rfl rfl rfl) rfl rfl ?_) | refine sy_ov (ov_fieldAddr rfl rfl rfl) rfl rfl ?_ | (refine sy_ov (ov_indexAddr rfl rfl ?_ ?_) rfl rfl ?_; omega; omega)) | (refine sy_cond_f rfl ?_ ?_; (first | with_reducible rfl | assumption | omega | (simp <;> first | omega | assumption))))
 refine sy_ov (ov_loadxa (vs := tokV t) rfl rfl rfl (fun w hw j u hj => tk_at (hst.at hw) ht j hj)) rfl rfl ?_
 repeat (first | refine sy_k rfl rfl ?_ | (refine gO ?_; first | refine sy_ov (ov_p rfl) rfl rfl ?_ | (refine gB ?_; (refine sy_ov (ov_ar rfl rfl rfl ?_ ?_) rfl rfl ?_; omega; omega)) | (refine gL ?_; first | refine sy_ov (ov_ld 0 rfl rfl rfl) rfl rfl ?_ | refine sy_ov (ov_ld 4 rfl rfl rfl) rfl rfl ?_) | (refine gS ?_; first | refine sy_store 0 rfl rfl rfl rfl rfl rfl rfl rfl ?_ | refine sy_store 4 rfl rfl rfl rfl rfl rfl rfl rfl ?_) | refine sy_ov (ov_fieldAddr rfl rfl rfl) rfl rfl ?_ | refine sy_ov (ov_build rfl rfl rfl) rfl rfl ?_ | (refine sy_alloc rfl rfl rfl ?_; intro _)) | (refine sy_cond_f rfl ?_ ?_; (first | with_reducible rfl | assumption | omega | (simp <;> first | omega | assumption))))
 refine sy_ov (ov_call rfl (fun w hw => hma w (hst1.at hw))) rfl rfl ?_
 repeat (first | refine sy_k rfl rfl ?_ | (refine gO ?_; first | refine sy_ov (ov_p rfl) rfl rfl ?_ | (refine gL ?_; first | refine sy_ov (ov_ld 0 rfl rfl rfl) rfl rfl ?_ | refine sy_ov (ov_ld 1 rfl rfl rfl) rfl rfl ?_) | (refine gS ?_; first | refine sy_store 0 rfl rfl rfl rfl rfl rfl rfl rfl ?_ | refine sy_store 1 rfl rfl rfl rfl rfl rfl rfl rfl ?_) | refine sy_ov (ov_fieldAddr rfl rfl rfl) rfl rfl ?_ | (refine sy_alloc rfl rfl rfl ?_; intro _)) | (refine sy_cond_t rfl ?_ ?_; (first | with_reducible rfl | assumption | omega | (simp <;> first | omega | assumption))))
 refine sy_callN rfl rfl (fun w hw => hrows w ((hst.at hw).on hoa)) ?_
 intro u es' hV2
 have hV3 := RVP.on (x := x) (y := x.one.adv) hoa hV2
 have hov' : valE (d + 1) x = ((bodyR (valR d) false [93] x.one.adv.l x.one.adv.m).map fun r => RawP.mk 4 t.2.1 0 [] r.1 r.2) := hov
 rw [← hov'] at hV3
 obtain ⟨z, y, hu, hes, _⟩ := id hV3
 subst hu
 subst hes
 obtain ⟨zk, za, zn, zsx, zpk, zck, zkeys, zp, zc, zkids⟩ := z
 simp only [List.cons_append, List.nil_append]
 refine sy_order [5, 4, 0, 1, 2, 3, 6] rfl rfl ?_
 simp only [List.set_cons_zero, List.set_cons_succ, List.filterMap_cons, List.filterMap_nil, List.getElem?_cons_zero, List.getElem?_cons_succ]
 repeat (first | refine sy_k rfl rfl ?_ | (refine gO ?_; first | refine sy_ov (ov_p rfl) rfl rfl ?_ | (refine gS ?_; first | refine sy_store 0 rfl rfl rfl rfl rfl rfl rfl rfl ?_ | refine sy_store 1 rfl rfl rfl rfl rfl rfl rfl rfl ?_)) | refine sy_rt ?_)
 exact ret_ccw 0 1 rfl rfl rfl rfl rfl rfl rfl rfl rfl fun w' hw' => ⟨_, _, hV3, rfl, hw'.weaken (sd (sd (sk (List.nil_sublist _))))⟩
set_option maxRecDepth 20000 in
set_option maxHeartbeats 8000000 in
theorem rval_rec (d : Nat) (hV : VSpec d) (g : Nat) (x : PS) (hx : x.Ok) (m0 : 0 ≤ x.m) (m1 : x.m ≤ 4096) (hl : x.l.length ≤ 65537) (he : x.e = 0) (hd : d < 24) (hm : x.m ≠ 4096) (hA : mkB x.l [91] = false) (hB : mkB x.l [123] = true) (w : World) (hT : TkAt g x w) : RQ g x (d + 1) w (24 - d) := by
 unfold RQ
 have hst : St (fun _ => False) w (fun w => TkAt g x w) := St.start (TkAt.bl g x) hT
 obtain ⟨t, ht, hh⟩ := hx.hd
 have hne := hx.ne
 have hov := v_rec (d := d) he hm hh hB
 have hx1 : x.one.Ok := hx.one
 have hst1 : St (fun _ => False) w (fun w => TkAt g x.one w) := hst
 have hma := fun w h => rp_may g x.one hx1 [91] w h
 have hmb := fun w h => rp_may g x.one hx1 [123] w h
 have hb1 : x.one.mayB [91] = mkB x.l [91] := mayB_ok (x := x.one) he [91]
 have hb2 : x.one.mayB [123] = mkB x.l [123] := mayB_ok (x := x.one) he [123]
 have hm41 : x.m < 4096 := by omega
 have hb3 : x.one.mayB [123] = true := by rw [hb2]; exact hB
 have hadv : x.one.adv.Ok := hx1.adv (PS.mayB_hd hb3).2.2
 have hoa : x.On x.one.adv := (PS.On.one x).trans (.adv _)
 have hrows := fun w h => rrows_rec d hV g x.one.adv hadv he (by show 0 ≤ x.m + 1; omega) (by show x.m + 1 ≤ 4096; omega) (hoa.len65 hl) (by omega) 5 t.2.1 w h
 rw [hb1, hA, show x.one.may [91] = x.one from if_neg (by rw [hb1, hA]; decide)] at hma
 rw [hb3, show x.one.may [123] = x.one.adv from if_pos hb3] at hmb
 refine sy_enter rfl rfl ?_
 simp only [initFr]
 repeat (first | refine sy_k rfl rfl ?_ | (refine gO ?_; first | (refine gL ?_; refine sy_ov (ov_ld 2 rfl rfl rfl) rfl rfl ?_) | (refine sy_box rfl rfl rfl ?_; intro _) | (refine sy_alloc rfl rfl rfl ?_; intro _)))
 refine sy_ov (ov_call rfl (fun w _ => rp_fine g x true (by simp [he]) w)) rfl rfl ?_
 repeat (first | refine sy_k rfl rfl ?_ | (refine gO ?_; first | refine sy_ov (ov_p rfl) rfl rfl ?_ | (refine gL ?_; refine sy_ov (ov_ld 2 rfl rfl rfl) rfl rfl ?_) | refine sy_ov (ov_fieldAddr rfl rfl rfl) rfl rfl ?_ | (refine sy_ov (ov_indexAddr rfl rfl ?_ ?_) rfl rfl ?_; omega; omega)) | (refine sy_cond_f rfl ?_ ?_; (first | with_reducible rfl | assumption | omega | (simp <;> first | omega | assumption))))
 refine sy_ov (ov_loadxa (vs := tokV t) rfl rfl rfl (fun w hw j u hj => tk_at (hst.at hw) ht j hj)) rfl rfl ?_
 repeat (first | refine sy_k rfl rfl ?_ | (refine gO ?_; first | refine sy_ov (ov_p rfl) rfl rfl ?_ | (refine gB ?_; (refine sy_ov (ov_ar rfl rfl rfl ?_ ?_) rfl rfl ?_; omega; omega)) | (refine gL ?_; first | refine sy_ov (ov_ld 0 rfl rfl rfl) rfl rfl ?_ | refine sy_ov (ov_ld 4 rfl rfl rfl) rfl rfl ?_) | (refine gS ?_; first | refine sy_store 0 rfl rfl rfl rfl rfl rfl rfl rfl ?_ | refine sy_store 4 rfl rfl rfl rfl rfl rfl rfl rfl ?_) | refine sy_ov (ov_fieldAddr rfl rfl rfl) rfl rfl ?_ | refine sy_ov (ov_build rfl rfl rfl) rfl rfl ?_ | (refine sy_alloc rfl rfl rfl ?_; intro _)) | (refine sy_cond_f rfl ?_ ?_; (first | with_reducible rfl | assumption | omega | (simp <;> first | omega | assumption))))
 refine sy_ov (ov_call rfl (fun w hw => hma w (hst1.at hw))) rfl rfl ?_
 repeat (first | refine sy_k rfl rfl ?_ | (refine gO ?_; first | refine sy_ov (ov_p rfl) rfl rfl ?_ | (refine gS ?_; refine sy_store 0 rfl rfl rfl rfl rfl rfl rfl rfl ?_) | (refine sy_alloc rfl rfl rfl ?_; intro _)) | (refine sy_cond_f rfl ?_ ?_; (first | with_reducible rfl | assumption | omega | (simp <;> first | omega | assumption))))
 refine sy_weaken (fun _ _ h => h) (sd sr) ?_
 repeat ((refine gO ?_; (refine gL ?_; refine sy_ov (ov_ld 4 rfl rfl rfl) rfl rfl ?_)))
 refine sy_ov (ov_call rfl (fun w hw => hmb w (hst1.at hw))) rfl rfl ?_
 repeat (first | refine sy_k rfl rfl ?_ | (refine gO ?_; first | refine sy_ov (ov_p rfl) rfl rfl ?_ | (refine gL ?_; first | refine sy_ov (ov_ld 0 rfl rfl rfl) rfl rfl ?_ | refine sy_ov (ov_ld 1 rfl rfl rfl) rfl rfl ?_) | (refine gS ?_; first | refine sy_store 0 rfl rfl rfl rfl rfl rfl rfl rfl ?_ | refine sy_store 1 rfl rfl rfl rfl rfl rfl rfl rfl ?_) | refine sy_ov (ov_fieldAddr rfl rfl rfl) rfl rfl ?_ | (refine sy_alloc rfl rfl rfl ?_; intro _)) | (refine sy_cond_t rfl ?_ ?_; (first | with_reducible rfl | assumption | omega | (simp <;> first | omega | assumption))))
 refine sy_callN rfl rfl (fun w hw => hrows w ((hst.at hw).on hoa)) ?_
 intro u es' hV2
 have hV3 := RVP.on (x := x) (y := x.one.adv) hoa hV2
 have hov' : valE (d + 1) x = ((bodyR (valR d) true [125] x.one.adv.l x.one.adv.m).map fun r => RawP.mk 5 t.2.1 0 [] r.1 r.2) := hov
 rw [← hov'] at hV3
 obtain ⟨z, y, hu, hes, _⟩ := id hV3
 subst hu
 subst hes
 obtain ⟨zk, za, zn, zsx, zpk, zck, zkeys, zp, zc, zkids⟩ := z
 simp only [List.cons_append, List.nil_append]
 refine sy_order [5, 4, 0, 1, 2, 3, 6] rfl rfl ?_
 simp only [List.set_cons_zero, List.set_cons_succ, List.filterMap_cons, List.filterMap_nil, List.getElem?_cons_zero, List.getElem?_cons_succ]
 repeat (first | refine sy_k rfl rfl ?_ | (refine gO ?_; first | refine sy_ov (ov_p rfl) rfl rfl ?_ | (refine gS ?_; first | refine sy_store 0 rfl rfl rfl rfl rfl rfl rfl rfl ?_ | refine sy_store 1 rfl rfl rfl rfl rfl rfl rfl rfl ?_)) | refine sy_rt ?_)
 exact ret_ccw 0 1 rfl rfl rfl rfl rfl rfl rfl rfl rfl fun w' hw' => ⟨_, _, hV3, rfl, hw'.weaken (sd (sd (sk (List.nil_sublist _))))⟩
end Go.Proofs.YtldjakeigjngoaaGreat
/- Contract: a call, as the document reads it. -/
namespace Go.Proofs.YtldjakeigjngoaaGreat
open Go.RowKit Bf
set_option maxRecDepth 20000 in
set_option maxHeartbeats 8000000 in
theorem rval_call (d : Nat) (hV : VSpec d) (g : Nat) (x : PS) (hx : x.Ok) (m0 : 0 ≤ x.m) (m1 : x.m ≤ 4096) (hl : x.l.length ≤ 65537) (he : x.e = 0) (hd : d < 24) (hm : x.m ≠ 4096) (hA : mkB x.l [91] = false) (hB : mkB x.l [123] = false) (hk' : (hdT x.l).1 = 1) (hC : mkB x.l.tail [40] = true) (w : World) (hT : TkAt g x w) : RQ g x (d + 1) w (24 - d) := by
 unfold RQ
 have hst : St (fun _ => False) w (fun w => TkAt g x w) := St.start (TkAt.bl g x) hT
 obtain ⟨t, ht, hh⟩ := hx.hd
 have hne := hx.ne
 have hk : t.1 = 1 := by rw [← hh]; exact hk'
 have hov := v_call (d := d) he hm hh hB hA hk hC
 have hx1 : x.one.Ok := hx.one
 have hst1 : St (fun _ => False) w (fun w => TkAt g x.one w) := hst
 have hma := fun w h => rp_may g x.one hx1 [91] w h
 have hmb := fun w h => rp_may g x.one hx1 [123] w h
 have hb1 : x.one.mayB [91] = mkB x.l [91] := mayB_ok (x := x.one) he [91]
 have hb2 : x.one.mayB [123] = mkB x.l [123] := mayB_ok (x := x.one) he [123]
 have hm41 : x.m < 4096 := by omega
 have hany := fun w h => rp_any g x.one hx1 1 (by decide) w h
 have hab : x.one.anyB 1 = true := by unfold PS.anyB; show (decide (x.e = 0) && decide ((hdT x.l).1 = 1)) = true; rw [hh]; simp [he, hk]
 rw [show x.one.any 1 = x.one.adv from if_pos hab, show x.one.tok 1 = t by unfold PS.tok; rw [if_pos hab]; exact hh] at hany
 have hadv : x.one.adv.Ok := hx1.adv (by show (hdT x.l).1 ≠ 0; rw [hh, hk]; decide)
 have hoa : x.On x.one.adv := (PS.On.one x).trans (.adv _)
 obtain ⟨nzA, nzB⟩ := hx.nz t (List.mem_of_getElem? ht)
 obtain ⟨tk, ta, te, tx, tn⟩ := t
 simp only at hk nzA nzB
 subst hk
 have htn : tn = 0 := nzB (by decide)
 subst htn
 have hmc := fun w h => rp_may g x.one.adv hadv [40] w h
 have hb3 : x.one.adv.mayB [40] = true := by rw [mayB_ok (x := x.one.adv) he [40]]; exact hC
 rw [hb3, show x.one.adv.may [40] = x.one.adv.adv from if_pos hb3] at hmc
 have hadv2 : x.one.adv.adv.Ok := hadv.adv (PS.mayB_hd hb3).2.2
 have hoa2 : x.On x.one.adv.adv := hoa.trans (.adv _)
 have hd1 : (24 : Int) - d + 1 = 25 - d := by omega
 have hval : ∀ w, TkAt g x.one.adv.adv w → Calls Tryz.prog 24 #[.agg ⟨ptV g x.one.adv.adv⟩, .int .i64 (24 - d + 1)] w (PostN w (RVP g x.one.adv.adv (valE d x.one.adv.adv))) := by
  rw [hd1]; exact fun w h => hV g x.one.adv.adv hadv2 (by show 0 ≤ x.m + 1; omega) (by show x.m + 1 ≤ 4096; omega) (hoa2.len65 hl) w h
 rw [show valE d x.one.adv.adv = valR d x.l.tail.tail (x.m + 1) from valE_ok he] at hval
 obtain ⟨R0, hR0⟩ : ∃ R, valR d x.l.tail.tail (x.m + 1) = R := ⟨_, rfl⟩
 rw [hR0] at hval hov
 rw [hb1, hA, show x.one.may [91] = x.one from if_neg (by rw [hb1, hA]; decide)] at hma
 rw [hb2, hB, show x.one.may [123] = x.one from if_neg (by rw [hb2, hB]; decide)] at hmb
 refine sy_enter rfl rfl ?_
 simp only [initFr]
 repeat (first | refine sy_k rfl rfl ?_ | (refine gO ?_; first | (refine gL ?_; refine sy_ov (ov_ld 2 rfl rfl rfl) rfl rfl ?_) | (refine sy_box rfl rfl rfl ?_; intro _) | (refine sy_alloc rfl rfl rfl ?_; intro _)))
 refine sy_ov (ov_call rfl (fun w _ => rp_fine g x true (by simp [he]) w)) rfl rfl ?_
 repeat (first | refine sy_k rfl rfl ?_ | (refine gO ?_; first | refine sy_ov (ov_p rfl) rfl rfl ?_ | (refine gL ?_; refine sy_ov (ov_ld 2 rfl rfl rfl) rfl rfl ?_) | refine sy_ov (ov_fieldAddr rfl rfl rfl) rfl rfl ?_ | (refine sy_ov (ov_indexAddr rfl rfl ?_ ?_) rfl rfl ?_; omega; omega)) | (refine sy_cond_f rfl ?_ ?_; (first | with_reducible rfl | assumption | omega | (simp <;> first | omega | assumption))))
 refine sy_ov (ov_loadxa (vs := tokV (1, ta, te, tx, 0)) rfl rfl rfl (fun w hw j u hj => tk_at (hst.at hw) ht j hj)) rfl rfl ?_
 repeat (first | refine sy_k rfl rfl ?_ | (refine gO ?_; first | refine sy_ov (ov_p rfl) rfl rfl ?_ | (refine gB ?_; (refine sy_ov (ov_ar rfl rfl rfl ?_ ?_) rfl rfl ?_; omega; omega)) | (refine gL ?_; first | refine sy_ov (ov_ld 0 rfl rfl rfl) rfl rfl ?_ | refine sy_ov (ov_ld 4 rfl rfl rfl) rfl rfl ?_) | (refine gS ?_; first | refine sy_store 0 rfl rfl rfl rfl rfl rfl rfl rfl ?_ | refine sy_store 4 rfl rfl rfl rfl rfl rfl rfl rfl ?_) | refine sy_ov (ov_fieldAddr rfl rfl rfl) rfl rfl ?_ | refine sy_ov (ov_build rfl rfl rfl) rfl rfl ?_ | (refine sy_alloc rfl rfl rfl ?_; intro _)) | (refine sy_cond_f rfl ?_ ?_; (first | with_reducible rfl | assumption | omega | (simp <;> first | omega | assumption))))
 refine sy_ov (ov_call rfl (fun w hw => hma w (hst1.at hw))) rfl rfl ?_
 repeat (first | refine sy_k rfl rfl ?_ | (refine gO ?_; first | refine sy_ov (ov_p rfl) rfl rfl ?_ | (refine gS ?_; refine sy_store 0 rfl rfl rfl rfl rfl rfl rfl rfl ?_) | (refine sy_alloc rfl rfl rfl ?_; intro _)) | (refine sy_cond_f rfl ?_ ?_; (first | with_reducible rfl | assumption | omega | (simp <;> first | omega | assumption))))
 refine sy_weaken (fun _ _ h => h) (sd sr) ?_
 repeat ((refine gO ?_; (refine gL ?_; refine sy_ov (ov_ld 4 rfl rfl rfl) rfl rfl ?_)))
 refine sy_ov (ov_call rfl (fun w hw => hmb w (hst1.at hw))) rfl rfl ?_
 repeat (first | refine sy_k rfl rfl ?_ | (refine gO ?_; first | refine sy_ov (ov_p rfl) rfl rfl ?_ | (refine gG ?_; (refine sy_guard_yes rfl rfl rfl rfl rfl ?_ ?_; (first | with_reducible rfl | assumption | omega | (simp <;> first | omega | assumption)))) | (refine gL ?_; refine sy_ov (ov_ld 2 rfl rfl rfl) rfl rfl ?_) | (refine gS ?_; refine sy_store 0 rfl rfl rfl rfl rfl rfl rfl rfl ?_) | (refine sy_ov (ov_pick_f rfl rfl ?_) rfl rfl ?_; focus (with_reducible rfl)) | refine sy_ov (ov_fieldAddr rfl rfl rfl) rfl rfl ?_ | (refine sy_alloc rfl rfl rfl ?_; intro _)) | (refine sy_cond_f rfl ?_ ?_; (first | with_reducible rfl | assumption | omega | (simp <;> first | omega | assumption))))
 refine sy_weaken (fun _ _ h => h) (sd sr) ?_
 repeat ((refine gO ?_; first | (refine gL ?_; first | refine sy_ov (ov_ld 1 rfl rfl rfl) rfl rfl ?_ | refine sy_ov (ov_ld 4 rfl rfl rfl) rfl rfl ?_) | refine sy_ov (ov_fieldAddr rfl rfl rfl) rfl rfl ?_))
 refine sy_ov (ov_call rfl (fun w hw => hany w (hst1.at hw))) rfl rfl ?_
 repeat (first | refine sy_k rfl rfl ?_ | (refine gO ?_; first | refine sy_ov (ov_p rfl) rfl rfl ?_ | (refine gL ?_; first | refine sy_ov (ov_ld 0 rfl rfl rfl) rfl rfl ?_ | refine sy_ov (ov_ld 3 rfl rfl rfl) rfl rfl ?_) | (refine gS ?_; first | refine sy_store 0 rfl rfl rfl rfl rfl rfl rfl rfl ?_ | refine sy_store 1 rfl rfl rfl rfl rfl rfl rfl rfl ?_ | refine sy_store 2 rfl rfl rfl rfl rfl rfl rfl rfl ?_) | refine sy_ov (ov_fieldAddr rfl rfl rfl) rfl rfl ?_ | (refine sy_alloc rfl rfl rfl ?_; intro _)) | (refine sy_cond_t rfl ?_ ?_; (first | with_reducible rfl | assumption | omega | (simp <;> first | omega | assumption))) | (refine sy_cond_f rfl ?_ ?_; (first | with_reducible rfl | assumption | omega | (simp <;> first | omega | assumption))))
 refine sy_ov (ov_call rfl (fun w hw => hmc w ((hst.at hw).on hoa))) rfl rfl ?_
 repeat (first | refine sy_k rfl rfl ?_ | (refine gO ?_; first | refine sy_ov (ov_p rfl) rfl rfl ?_ | (refine gB ?_; (refine sy_ov (ov_ar rfl rfl rfl ?_ ?_) rfl rfl ?_; omega; omega)) | (refine gL ?_; refine sy_ov (ov_ld 0 rfl rfl rfl) rfl rfl ?_) | (refine gS ?_; refine sy_store 0 rfl rfl rfl rfl rfl rfl rfl rfl ?_) | (refine sy_alloc rfl rfl rfl ?_; intro _)) | (refine sy_cond_t rfl ?_ ?_; (first | with_reducible rfl | assumption | omega | (simp <;> first | omega | assumption))))
 refine sy_callN rfl rfl (fun w hw => hval w ((hst.at hw).on hoa2)) ?_
 rintro u es' ⟨z, y, rfl, rfl, hy1, hyk, hy2, hy3, hy4⟩
 have hony : x.On y := hoa2.trans hy1
 have hmust := fun w h => rp_must g y hyk [41] w h
 have hRV : ∀ nb : Nat, RVP g x (valE (d + 1) x) (.tuple #[.agg ⟨rawV (.mk 6 ta 0 tx none 0 [] (some ⟨nb, 0, none⟩) 1 [z])⟩, .agg ⟨ptV g (y.must [41])⟩]) [rawE [.mk 6 ta 0 tx none 0 [] (some ⟨nb, 0, none⟩) 1 [z]]] := fun nb => by
  refine ⟨.mk 6 ta 0 tx none 0 [] (some ⟨nb, 0, none⟩) 1 [z], y.must [41], rfl, rfl, hony.trans (.must y _), hyk.must _, by rw [must_m]; exact hy2, by rw [must_m]; exact hy3, ?_⟩
  rw [hov]
  cases R0 with
  | ok v l' m' =>
   simp only at hy4
   obtain ⟨e0, hz, rfl, rfl⟩ := hy4
   rw [mustR_eq]
   by_cases hb : mkB y.l [41] = true
   · have hyb : y.mayB [41] = true := by rw [mayB_ok e0]; exact hb
     rw [if_pos hb, show y.must [41] = y.adv from if_pos hyb]
     exact ⟨e0, by rw [← hz]; rfl, rfl, rfl⟩
   · have hyb : ¬ y.mayB [41] = true := by rw [mayB_ok e0]; exact hb
     rw [if_neg hb, show y.must [41] = y.odd from if_neg hyb, oddR_eq e0]
     exact ⟨rfl, rfl, (odd_bad e0).1⟩
  | bad e2 a2 =>
   simp only at hy4
   obtain ⟨h1, h2, h3⟩ := hy4
   rw [must_same (by rw [h1]; exact h3)]
   exact ⟨h1, h2, h3⟩
 clear hval hany hma hmb hmc
 simp only [List.cons_append, List.nil_append]
 refine sy_order [0, 4, 6, 7, 1, 2, 3, 5, 8] rfl rfl ?_
 simp only [List.set_cons_zero, List.set_cons_succ, List.filterMap_cons, List.filterMap_nil, List.getElem?_cons_zero, List.getElem?_cons_succ]
 refine sy_weaken (fun _ _ h => h) (sk (sk (sk (sk (List.nil_sublist _))))) ?_
 obtain ⟨zk, za, zn, zsx, zpk, zck, zkeys, zp, zc, zkids⟩ := z
 repeat (first | refine sy_k rfl rfl ?_ | (refine gO ?_; first | refine sy_ov (ov_p rfl) rfl rfl ?_ | (refine gL ?_; refine sy_ov (ov_ld 1 rfl rfl rfl) rfl rfl ?_) | (refine gS ?_; first | refine sy_store 0 rfl rfl rfl rfl rfl rfl rfl rfl ?_ | refine sy_store 1 rfl rfl rfl rfl rfl rfl rfl rfl ?_ | refine sy_store 3 rfl rfl rfl rfl rfl rfl rfl rfl ?_) | refine sy_ov (ov_fieldAddr rfl rfl rfl) rfl rfl ?_ | (refine sy_alloc rfl rfl rfl ?_; intro _)))
 refine sy_buildSlice rfl rfl rfl rfl rfl rfl rfl rfl ?_
 intro nb
 have hRV := hRV nb
 repeat (first | refine sy_k rfl rfl ?_ | (refine gO ?_; first | (refine gS ?_; refine sy_store 4 rfl rfl rfl rfl rfl rfl rfl rfl ?_) | refine sy_ov (ov_fieldAddr rfl rfl rfl) rfl rfl ?_))
 refine sy_blkVec (n := 1) (size := 6) 0 rfl rfl (by decide) ?_
 refine sy_vecIs (n' := [RawA.mk zk za zn zsx zpk zck zkeys zp zc zkids].length) (cs' := [RawA.mk zk za zn zsx zpk zck zkeys zp zc zkids].flatMap rawV) 0 rfl rfl rfl ?_
 refine sy_grow 36 2 ?_
 refine sy_order [0, 1, 4, 2, 3, 5, 6, 7] rfl rfl ?_
 simp only [List.set_cons_zero, List.set_cons_succ, List.filterMap_cons, List.filterMap_nil, List.getElem?_cons_zero, List.getElem?_cons_succ]
 refine sy_rawMk (pk := none) (ck := 0) (keys := []) 6 ta 0 tx ?_
 refine sy_order [0, 4, 5, 1, 3, 2] rfl rfl ?_
 simp only [List.set_cons_zero, List.set_cons_succ, List.filterMap_cons, List.filterMap_nil, List.getElem?_cons_zero, List.getElem?_cons_succ]
 refine sy_draw 3 (by kernel_rfl) ?_
 repeat (first | refine dr_op (ov_ld 3 rfl rfl rfl) rfl rfl ?_ | refine dr_op (ov_ld 4 rfl rfl rfl) rfl rfl ?_)
 refine dr_op (ov_call rfl (fun w hw => hmust w ((hst.at hw).on hony))) rfl rfl ?_
 repeat (refine dr_end ?_)
 repeat (first | refine sy_k rfl rfl ?_ | (refine gO ?_; (refine gS ?_; first | refine sy_store 1 rfl rfl rfl rfl rfl rfl rfl rfl ?_ | refine sy_store 2 rfl rfl rfl rfl rfl rfl rfl rfl ?_)) | refine sy_rt ?_)
 exact ret_ccw 2 1 rfl rfl rfl rfl rfl rfl rfl rfl rfl fun w' hw' => ⟨_, _, hRV, rfl, hw'.weaken (sk (List.nil_sublist _))⟩
end Go.Proofs.YtldjakeigjngoaaGreat
/- Contract: a value, as the document reads it. -/
namespace Go.Proofs.YtldjakeigjngoaaGreat
open Go.RowKit Bf
theorem vspec : ∀ d : Nat, d ≤ 24 → VSpec d
 | 0, _ => fun g x hx m0 m1 hl w hT => by
  by_cases he : x.e = 0
  · exact rval_deep g x hx m0 m1 he w hT
  · exact rval_bad 0 g x hx m0 m1 he _ w hT
 | d + 1, hd => fun g x hx m0 m1 hl w hT => by
  have hV := vspec d (by omega)
  have hd1 : (25 : Int) - ((d + 1 : Nat) : Int) = 24 - d := by omega
  rw [hd1]
  by_cases he : x.e = 0
  · by_cases hm : x.m = 4096
    · exact rval_many d g x hx m0 m1 he (by omega) hm w hT
    · cases hA : mkB x.l [91]
      · cases hB : mkB x.l [123]
        · by_cases h2 : (hdT x.l).1 = 2
          · exact rval_int d g x hx m0 m1 he (by omega) hm hA hB h2 w hT
          · by_cases h3 : (hdT x.l).1 = 3
            · exact rval_text d g x hx m0 m1 he (by omega) hm hA hB h3 w hT
            · by_cases h1 : (hdT x.l).1 = 1
              · cases hC : mkB x.l.tail [40]
                · exact rval_word d g x hx m0 m1 he (by omega) hm hA hB h1 hC w hT
                · exact rval_call d hV g x hx m0 m1 hl he (by omega) hm hA hB h1 hC w hT
              · exact rval_odd d g x hx m0 m1 he (by omega) hm hA hB h1 h2 h3 w hT
        · exact rval_rec d hV g x hx m0 m1 hl he (by omega) hm hA hB w hT
      · exact rval_lst d hV g x hx m0 m1 hl he (by omega) hm hA w hT
  · exact rval_bad (d + 1) g x hx m0 m1 he _ w hT
end Go.Proofs.YtldjakeigjngoaaGreat
/- Contract: the value of a text, as the document reads it. -/
namespace Go.Proofs.YtldjakeigjngoaaGreat
open Go.RowKit Bf
section
variable {P : Program} {C : Cx} {k : List It} {fr : Fr} {hp : List En} {all : Array Oper} {l : List Oper} {dst : Option Tmp} {ty : TypeId} {pos : String} {aft : Array Edge} {g : Option (Nat × Bool)}
theorem ov_slEq {t e : TypeId} [hd : TU P t (.slice e)] {ti : TypeInfo} [hti : TI P e ti] {x y : Operand} {b off n q : Nat} {ik : IntKind} {i : Int} (hx : ev fr x = some (.slice (some ⟨b, off, none⟩) n q)) (hy : ev fr y = some (.int ik i)) (h0 : 0 ≤ i) (h1 : i ≤ n) (h2 : q = i.toNat) :
 OV P C fr hp ⟨dst, .slice t x (some y) none none, ty, pos, aft, g⟩ (.slice (some ⟨b, off, none⟩) (n - i.toNat) (q - i.toNat)) :=
 ov_pure (fun r w hr => by
  subst h2
  simp [execOp, hr _ _ hx, hr _ _ hy, Instr.sliceAt, Instr.slice, Instr.sliceBounds, Instr.sliceBound, asIntOf, underlying, hd.h, h0, h1, run_sizeOf' (P := P) (t := e), addr_add])
theorem sy_vecMax (i : Nat) {e : TypeId} {size n m q : Nat} {p : Option Addr} {cs : List Value} (hi : hp[i]? = some (vec e size (.slice p m q) n cs)) (h : n ≤ q → q ≤ maxLen → Sy P C k fr hp) : Sy P C k fr hp :=
 .mk fun a w ha hw => by
  have hown : w.ownsRow 0 e size (.slice p m q) n cs := (hw.get hi).1
  rcases hown.2 with ⟨hv, h0⟩ | ⟨g, cap, cur, hv, _, _, hle, hm, _⟩
  · cases hv; exact (h (by omega) (Nat.zero_le _)).go a w ha hw
  · cases hv; exact (h hle hm).go a w ha hw
end
theorem tk_of {w : World} {g : Nat} {x : PS} {L : List TokT} (h : IsSl w 5 (some ⟨g, 0, none⟩) L.length (L.flatMap tokV)) (hn : 0 < L.length) (h0 : x.off = 0) (hl : x.l = L) : TkAt g x w := by
 rcases h.2 with h | ⟨b, off, e, hat⟩
 · omega
 · cases e
   unfold TkAt
   rw [h0, hl]; exact hat
set_option maxRecDepth 20000 in
theorem rp_fine2 (v : Value) (m e a : Int) (b : Bool) (hb : decide (e = 0) = b) (w : World) : Calls Tryz.prog 26 #[.agg ⟨[v, .int .i64 m, .int .i64 e, .int .i64 a]⟩] w fun u w' => u = .returned (.bool b) ∧ Below w.heap.size w w' := by
 subst hb
 refine sy_enter rfl rfl ?_
 simp only [initFr]
 repeat (first | refine sy_k rfl rfl ?_ | (refine gO ?_; first | refine sy_ov (ov_p rfl) rfl rfl ?_ | (refine gL ?_; refine sy_ov (ov_ld 0 rfl rfl rfl) rfl rfl ?_) | refine sy_ov (ov_fieldAddr rfl rfl rfl) rfl rfl ?_ | (refine sy_box rfl rfl rfl ?_; intro _)) | refine sy_rt ?_)
 exact ret1 rfl rfl rfl
def A0P (x : PS) (u : Value) (es : List En) : Prop := ∃ (p : Option Addr) (n c : Nat) (t : TokT) (m e a : Int), u = .tuple #[.agg ⟨tokV t⟩, .agg ⟨[.slice p n c, .int .i64 m, .int .i64 e, .int .i64 a]⟩] ∧ es = [] ∧ (x.e ≠ 0 → e = x.e ∧ a = x.a) ∧ (x.e = 0 → (hdT x.l).1 = 0 → e = 0) ∧ (x.e = 0 → (hdT x.l).1 ≠ 0 → e = (oddE (hdT x.l)).1 ∧ a = (oddE (hdT x.l)).2)
set_option maxRecDepth 20000 in
set_option maxHeartbeats 2000000 in
theorem rp_any0 (g : Nat) (x : PS) (hx : x.Ok) (w : World) (hT : TkAt g x w) : Calls Tryz.prog 25 #[.agg ⟨ptV g x⟩, .int .i64 0] w (PostN w (A0P x)) := by
 have hst : St (fun _ => False) w (fun w => TkAt g x w) := St.start (TkAt.bl g x) hT
 obtain ⟨t, ht, hh⟩ := hx.hd
 have hne := hx.ne
 have hlc := hx.le
 by_cases he : x.e = 0
 · by_cases h4 : t.1 = 0
   · by_cases hq : 1 < x.c
     · refine sy_enter rfl rfl ?_
       simp only [initFr]
       repeat (first | refine sy_k rfl rfl ?_ | (refine gO ?_; first | (refine gL ?_; refine sy_ov (ov_ld 2 rfl rfl rfl) rfl rfl ?_) | (refine sy_box rfl rfl rfl ?_; intro _) | (refine sy_alloc rfl rfl rfl ?_; intro _)))
       refine sy_ov (ov_call rfl (fun w _ => rp_fine g x true (by simp [he]) w)) rfl rfl ?_
       repeat (first | refine sy_k rfl rfl ?_ | (refine gO ?_; first | refine sy_ov (ov_p rfl) rfl rfl ?_ | (refine gL ?_; refine sy_ov (ov_ld 2 rfl rfl rfl) rfl rfl ?_) | refine sy_ov (ov_fieldAddr rfl rfl rfl) rfl rfl ?_ | (refine sy_ov (ov_indexAddr rfl rfl ?_ ?_) rfl rfl ?_; omega; omega)) | (refine sy_cond_f rfl ?_ ?_; (first | with_reducible rfl | assumption | omega | (simp <;> first | omega | assumption))))
       refine sy_ov (ov_loadx (v := .int .i64 t.1) rfl rfl (fun w hw => tk_at (hst.at hw) ht 0 rfl)) rfl rfl ?_
       repeat (first | refine sy_k rfl rfl ?_ | (refine gO ?_; refine sy_ov (ov_p rfl) rfl rfl ?_) | (refine sy_cond_f rfl ?_ ?_; (first | with_reducible rfl | assumption | omega | (simp <;> first | omega | assumption))))
       refine sy_drawE _ 13 [(0, false), (1, false), (2, false), (3, false), (4, false), (5, false), (6, false), (7, false), (8, false), (9, false), (10, false), (11, false), (12, true)] (by kernel_rfl) rfl (sk (sd sr)) ?_
       repeat (first | refine dre_rd (fun _ _ => ov_ld 1 rfl rfl rfl) rfl ?_ | refine dre_rd (fun _ _ => ov_fieldAddr rfl rfl rfl) rfl ?_ | (refine dre_rd (fun _ _ => ov_indexAddr rfl rfl ?_ ?_) rfl ?_; omega; omega))
       refine dre_rd (fun _ hC => ov_loadxa (vs := tokV t) rfl rfl rfl (fun w hw j u hj => tk_at ((hst.le2 hC).at hw) ht j hj)) rfl ?_
       repeat (first | refine dre_rd (fun _ _ => ov_ld 1 rfl rfl rfl) rfl ?_ | refine dre_rd (fun _ _ => ov_fieldAddr rfl rfl rfl) rfl ?_)
       refine dre_rd (fun _ hC => ov_slLo rfl rfl (by decide) ?_ ?_) rfl ?_
       focus omega
       focus omega
       repeat (first | refine dre_rd (fun _ _ => ov_ld 1 rfl rfl rfl) rfl ?_ | refine dre_rd (fun _ _ => ov_fieldAddr rfl rfl rfl) rfl ?_ | refine dre_rd (fun _ _ => ov_build rfl rfl rfl) rfl ?_ | (refine dre_ef rfl ?_; refine sy_store 1 rfl rfl rfl rfl rfl rfl rfl rfl ?_; refine dre_ek (by repeat first | exact sr | apply sk | apply sd) ?_) | refine dre_end ?_)
       repeat (first | refine sy_k rfl rfl ?_ | (refine gO ?_; (refine gS ?_; refine sy_store 0 rfl rfl rfl rfl rfl rfl rfl rfl ?_)) | refine sy_rt ?_)
       exact ret_ccw 1 0 rfl rfl rfl rfl rfl rfl rfl rfl rfl fun w' hw' => ⟨_, [], ⟨_, _, _, t, _, _, _, rfl, rfl, fun h => absurd he h, fun _ _ => he, fun _ h => absurd (by rw [hh]; exact h4) h⟩, rfl, hw'.weaken (List.nil_sublist _)⟩
     · refine sy_enter rfl rfl ?_
       simp only [initFr]
       repeat (first | refine sy_k rfl rfl ?_ | (refine gO ?_; first | (refine gL ?_; refine sy_ov (ov_ld 2 rfl rfl rfl) rfl rfl ?_) | (refine sy_box rfl rfl rfl ?_; intro _) | (refine sy_alloc rfl rfl rfl ?_; intro _)))
       refine sy_ov (ov_call rfl (fun w _ => rp_fine g x true (by simp [he]) w)) rfl rfl ?_
       repeat (first | refine sy_k rfl rfl ?_ | (refine gO ?_; first | refine sy_ov (ov_p rfl) rfl rfl ?_ | (refine gL ?_; refine sy_ov (ov_ld 2 rfl rfl rfl) rfl rfl ?_) | refine sy_ov (ov_fieldAddr rfl rfl rfl) rfl rfl ?_ | (refine sy_ov (ov_indexAddr rfl rfl ?_ ?_) rfl rfl ?_; omega; omega)) | (refine sy_cond_f rfl ?_ ?_; (first | with_reducible rfl | assumption | omega | (simp <;> first | omega | assumption))))
       refine sy_ov (ov_loadx (v := .int .i64 t.1) rfl rfl (fun w hw => tk_at (hst.at hw) ht 0 rfl)) rfl rfl ?_
       repeat (first | refine sy_k rfl rfl ?_ | (refine gO ?_; refine sy_ov (ov_p rfl) rfl rfl ?_) | (refine sy_cond_f rfl ?_ ?_; (first | with_reducible rfl | assumption | omega | (simp <;> first | omega | assumption))))
       refine sy_drawE _ 13 [(0, false), (1, false), (2, false), (3, false), (4, false), (5, false), (6, false), (7, false), (8, false), (9, false), (10, false), (11, false), (12, true)] (by kernel_rfl) rfl (sk (sd sr)) ?_
       repeat (first | refine dre_rd (fun _ _ => ov_ld 1 rfl rfl rfl) rfl ?_ | refine dre_rd (fun _ _ => ov_fieldAddr rfl rfl rfl) rfl ?_ | (refine dre_rd (fun _ _ => ov_indexAddr rfl rfl ?_ ?_) rfl ?_; omega; omega))
       refine dre_rd (fun _ hC => ov_loadxa (vs := tokV t) rfl rfl rfl (fun w hw j u hj => tk_at ((hst.le2 hC).at hw) ht j hj)) rfl ?_
       repeat (first | refine dre_rd (fun _ _ => ov_ld 1 rfl rfl rfl) rfl ?_ | refine dre_rd (fun _ _ => ov_fieldAddr rfl rfl rfl) rfl ?_)
       refine dre_rd (fun _ hC => ov_slEq rfl rfl (by decide) ?_ ?_) rfl ?_
       focus omega
       focus omega
       repeat (first | refine dre_rd (fun _ _ => ov_ld 1 rfl rfl rfl) rfl ?_ | refine dre_rd (fun _ _ => ov_fieldAddr rfl rfl rfl) rfl ?_ | refine dre_rd (fun _ _ => ov_build rfl rfl rfl) rfl ?_ | (refine dre_ef rfl ?_; refine sy_store 1 rfl rfl rfl rfl rfl rfl rfl rfl ?_; refine dre_ek (by repeat first | exact sr | apply sk | apply sd) ?_) | refine dre_end ?_)
       repeat (first | refine sy_k rfl rfl ?_ | (refine gO ?_; (refine gS ?_; refine sy_store 0 rfl rfl rfl rfl rfl rfl rfl rfl ?_)) | refine sy_rt ?_)
       exact ret_ccw 1 0 rfl rfl rfl rfl rfl rfl rfl rfl rfl fun w' hw' => ⟨_, [], ⟨_, _, _, t, _, _, _, rfl, rfl, fun h => absurd he h, fun _ _ => he, fun _ h => absurd (by rw [hh]; exact h4) h⟩, rfl, hw'.weaken (List.nil_sublist _)⟩
   · have hodd : x.odd = ⟨x.off, x.l, x.c, x.m, (oddE t).1, t.2.1⟩ := by unfold PS.odd PS.fail; rw [if_pos he, hh]
     have hwr := fun w h => rp_wrong g x hx w h
     rw [hodd] at hwr
     refine sy_enter rfl rfl ?_
     simp only [initFr]
     repeat (first | refine sy_k rfl rfl ?_ | (refine gO ?_; first | (refine gL ?_; refine sy_ov (ov_ld 2 rfl rfl rfl) rfl rfl ?_) | (refine sy_box rfl rfl rfl ?_; intro _) | (refine sy_alloc rfl rfl rfl ?_; intro _)))
     refine sy_ov (ov_call rfl (fun w _ => rp_fine g x true (by simp [he]) w)) rfl rfl ?_
     repeat (first | refine sy_k rfl rfl ?_ | (refine gO ?_; first | refine sy_ov (ov_p rfl) rfl rfl ?_ | (refine gL ?_; refine sy_ov (ov_ld 2 rfl rfl rfl) rfl rfl ?_) | refine sy_ov (ov_fieldAddr rfl rfl rfl) rfl rfl ?_ | (refine sy_ov (ov_indexAddr rfl rfl ?_ ?_) rfl rfl ?_; omega; omega)) | (refine sy_cond_f rfl ?_ ?_; (first | with_reducible rfl | assumption | omega | (simp <;> first | omega | assumption))))
     refine sy_ov (ov_loadx (v := .int .i64 t.1) rfl rfl (fun w hw => tk_at (hst.at hw) ht 0 rfl)) rfl rfl ?_
     repeat (first | refine sy_k rfl rfl ?_ | (refine gO ?_; first | refine sy_ov (ov_p rfl) rfl rfl ?_ | (refine gL ?_; refine sy_ov (ov_ld 2 rfl rfl rfl) rfl rfl ?_) | refine sy_ov (ov_build rfl rfl rfl) rfl rfl ?_) | (refine sy_cond_t rfl ?_ ?_; (first | with_reducible rfl | assumption | omega | (simp <;> first | omega | assumption))))
     refine sy_ov (ov_call rfl (fun w hw => hwr w (hst.at hw))) rfl rfl ?_
     repeat (first | refine sy_k rfl rfl ?_ | (refine gO ?_; (refine gS ?_; first | refine sy_store 0 rfl rfl rfl rfl rfl rfl rfl rfl ?_ | refine sy_store 1 rfl rfl rfl rfl rfl rfl rfl rfl ?_)) | refine sy_rt ?_)
     exact ret_ccw 1 0 rfl rfl rfl rfl rfl rfl rfl rfl rfl fun w' hw' => ⟨_, [], ⟨_, _, _, ztk, _, _, _, rfl, rfl, fun h => absurd he h, fun _ h => absurd (by rw [← hh]; exact h) h4, fun _ _ => by rw [hh]; exact ⟨rfl, rfl⟩⟩, rfl, hw'.weaken (List.nil_sublist _)⟩
 · refine sy_enter rfl rfl ?_
   simp only [initFr]
   repeat (first | refine sy_k rfl rfl ?_ | (refine gO ?_; first | (refine gL ?_; refine sy_ov (ov_ld 2 rfl rfl rfl) rfl rfl ?_) | (refine sy_box rfl rfl rfl ?_; intro _) | (refine sy_alloc rfl rfl rfl ?_; intro _)))
   refine sy_ov (ov_call rfl (fun w _ => rp_fine g x false (by simp [he]) w)) rfl rfl ?_
   repeat (first | refine sy_k rfl rfl ?_ | (refine gO ?_; refine sy_ov (ov_p rfl) rfl rfl ?_) | (refine sy_cond_t rfl ?_ ?_; (first | with_reducible rfl | assumption | omega | (simp <;> first | omega | assumption))))
   refine sy_drawE _ 3 [(0, false), (1, false), (2, true)] (by kernel_rfl) rfl ((sk (sd sr))) ?_
   repeat (first | refine dre_rd (fun _ _ => ov_ld 1 rfl rfl rfl) rfl ?_ | refine dre_rd (fun _ _ => ov_build rfl rfl rfl) rfl ?_ | (refine dre_ef rfl ?_; refine sy_store 1 rfl rfl rfl rfl rfl rfl rfl rfl ?_; refine dre_ek (by repeat first | exact sr | apply sk | apply sd) ?_) | refine dre_end ?_)
   repeat (first | refine sy_k rfl rfl ?_ | (refine gO ?_; (refine gS ?_; refine sy_store 0 rfl rfl rfl rfl rfl rfl rfl rfl ?_)) | refine sy_rt ?_)
   exact ret_ccw 1 0 rfl rfl rfl rfl rfl rfl rfl rfl rfl fun w' hw' => ⟨_, [], ⟨_, _, _, ztk, _, _, _, rfl, rfl, fun _ => ⟨rfl, rfl⟩, fun h => absurd h he, fun h => absurd h he⟩, rfl, hw'.weaken (List.nil_sublist _)⟩
set_option maxRecDepth 20000 in
set_option maxHeartbeats 8000000 in
theorem rparse_c (s : List UInt8) (hs : s.length ≤ 100000000) (w : World) : Calls Tryz.prog 8 #[S s] w (PostN w (PP s)) := by
 obtain ⟨L, e, a, hL⟩ : ∃ L e a, scanR s = (L, e, a) := ⟨_, _, _, rfl⟩
 by_cases he : e = 0
 · subst he
   have ha := scanR_a0 hL
   subst ha
   have hT := (scanR_toks hL (scanR_cnt hL)).1
   have hZ : TokZ L := by have := scanR_nz s; rw [hL] at this; exact this
   have hR : rawR s = match valR 24 L 0 with | .ok v l m => if (hdT l).1 = 0 then .ok v l m else oddR l | .bad e a => .bad e a := by unfold rawR; rw [hL, if_neg (by simp)]; rfl
   have hd : (25 : Int) - ((24 : Nat) : Int) = 1 := by decide
   refine sy_enter rfl rfl ?_
   simp only [initFr]
   repeat (first | refine sy_k rfl rfl ?_ | (refine gO ?_; first | refine sy_ov (ov_p rfl) rfl rfl ?_ | (refine sy_alloc rfl rfl rfl ?_; intro _)))
   refine sy_calln rfl rfl (fun w _ => rscan_c s (by omega) w) ?_
   rintro _ _ ⟨p, q, rfl, rfl⟩
   rw [hL]
   dsimp only
   refine sy_vecAddr 0 rfl hT.n ?_
   rintro g rfl
   refine sy_vecMax 0 rfl fun hq hqm => ?_
   obtain ⟨x0, hx0⟩ : ∃ x0 : PS, x0 = ⟨0, L, q, 0, 0, 0⟩ := ⟨_, rfl⟩
   have hok : x0.Ok := by
    subst hx0
    exact ⟨hT.n, fun i t hi h0 => by
     have h1 := (List.getElem?_eq_some_iff.1 hi).1
     have h2 := not_congr (hT.fin i t hi)
     have := h2.1 h0
     simp only at h1 ⊢; omega, hq, hqm, fun t ht => (hT.bd t ht).2, hZ⟩
   have hv := vspec 24 (Nat.le_refl _) g x0 hok (by rw [hx0]; exact (by decide : (0 : Int) ≤ 0)) (by rw [hx0]; exact (by decide : (0 : Int) ≤ 4096)) (by rw [hx0]; exact hT.big)
   rw [hd, show valE 24 x0 = valR 24 L 0 by rw [hx0]; rfl] at hv
   have htk : ∀ w, IsSl w 5 (some ⟨g, 0, none⟩) L.length (L.flatMap tokV) → TkAt g x0 w := fun w h => tk_of h hT.n (by rw [hx0]) (by rw [hx0])
   rw [show ptV g x0 = ptV g ⟨0, L, q, 0, 0, 0⟩ by rw [hx0]] at hv
   repeat (first | refine sy_k rfl rfl ?_ | (refine gO ?_; first | refine sy_ov (ov_p rfl) rfl rfl ?_ | (refine gL ?_; refine sy_ov (ov_ld 0 rfl rfl rfl) rfl rfl ?_) | (refine gS ?_; refine sy_store 0 rfl rfl rfl rfl rfl rfl rfl rfl ?_) | refine sy_ov (ov_fieldAddr rfl rfl rfl) rfl rfl ?_ | refine sy_ov (ov_build rfl rfl rfl) rfl rfl ?_ | (refine sy_alloc rfl rfl rfl ?_; intro _)) | (refine sy_cond_f rfl ?_ ?_; (first | with_reducible rfl | assumption | omega | (simp <;> first | omega | assumption))))
   refine sy_callN rfl rfl (fun w hw => hv w (htk w (vec_isSl hw (i := 1) rfl))) ?_
   rintro u es' ⟨z, y, rfl, rfl, hy1, hyk, hy2, hy3, hy4⟩
   have hany := fun w h => rp_any0 g y hyk w h
   clear hv
   simp only [List.cons_append, List.nil_append]
   obtain ⟨zk, za, zn, zsx, zpk, zck, zkeys, zp, zc, zkids⟩ := z
   repeat (first | refine sy_k rfl rfl ?_ | (refine gO ?_; first | refine sy_ov (ov_p rfl) rfl rfl ?_ | (refine gL ?_; refine sy_ov (ov_ld 0 rfl rfl rfl) rfl rfl ?_) | (refine gS ?_; first | refine sy_store 0 rfl rfl rfl rfl rfl rfl rfl rfl ?_ | refine sy_store 1 rfl rfl rfl rfl rfl rfl rfl rfl ?_) | (refine sy_alloc rfl rfl rfl ?_; intro _)))
   refine sy_order [0, 1, 6, 5, 2, 3, 4] rfl rfl ?_
   simp only [List.set_cons_zero, List.set_cons_succ, List.filterMap_cons, List.filterMap_nil, List.getElem?_cons_zero, List.getElem?_cons_succ]
   refine sy_callN rfl rfl (fun w hw => hany w ((htk w (vec_isSl hw (i := 6) rfl)).on hy1)) ?_
   rintro u es' ⟨sp2, sn2, sc2, t2, m2, e2, a2, rfl, rfl, hA, hB, hC⟩
   simp only [List.nil_append]
   cases hr : valR 24 L 0 with
   | ok v l' m' =>
    rw [hr] at hy4 hR
    simp only at hy4 hR
    obtain ⟨e0, hpl, rfl, rfl⟩ := hy4
    by_cases hk : (hdT y.l).1 = 0
    · have hP : PP s (.tuple #[.agg ⟨rawV (.mk zk za zn zsx zpk zck zkeys zp zc zkids)⟩, faultV 0 0]) [rawE [.mk zk za zn zsx zpk zck zkeys zp zc zkids]] := by
       unfold PP; rw [hR, if_pos hk]; exact ⟨_, rfl, rfl, hpl⟩
      have he2 : decide (e2 = 0) = true := by simpa using hB e0 hk
      repeat (first | refine sy_k rfl rfl ?_ | (refine gO ?_; first | refine sy_ov (ov_p rfl) rfl rfl ?_ | (refine gL ?_; refine sy_ov (ov_ld 0 rfl rfl rfl) rfl rfl ?_) | (refine gS ?_; refine sy_store 0 rfl rfl rfl rfl rfl rfl rfl rfl ?_)))
      refine sy_ov (ov_call rfl (fun w _ => rp_fine2 (.slice sp2 sn2 sc2) m2 e2 a2 true he2 w)) rfl rfl ?_
      repeat (first | refine sy_k rfl rfl ?_ | (refine gO ?_; first | refine sy_ov (ov_p rfl) rfl rfl ?_ | (refine gL ?_; refine sy_ov (ov_ld 1 rfl rfl rfl) rfl rfl ?_) | (refine gS ?_; first | refine sy_store 2 rfl rfl rfl rfl rfl rfl rfl rfl ?_ | refine sy_store 3 rfl rfl rfl rfl rfl rfl rfl rfl ?_) | refine sy_ov (ov_build rfl rfl rfl) rfl rfl ?_) | (refine sy_cond_f rfl ?_ ?_; (first | with_reducible rfl | assumption | omega | (simp <;> first | omega | assumption))) | refine sy_rt ?_)
      exact ret_ccw 2 3 rfl rfl rfl rfl rfl rfl rfl rfl rfl fun w' hw' => ⟨_, _, hP, rfl, hw'.weaken (sd (sd (sd (sd (sk (List.nil_sublist _))))))⟩
    · obtain ⟨h1, h2⟩ := hC e0 hk
      have hne2 : e2 ≠ 0 := by rw [h1]; exact oddE_ne _
      have hP : PP s (.tuple #[.agg ⟨z6⟩, faultV e2 a2]) [] := by
       unfold PP; rw [hR, if_neg hk, h1, h2]; exact ⟨rfl, rfl⟩
      repeat (first | refine sy_k rfl rfl ?_ | (refine gO ?_; first | refine sy_ov (ov_p rfl) rfl rfl ?_ | (refine gL ?_; refine sy_ov (ov_ld 0 rfl rfl rfl) rfl rfl ?_) | (refine gS ?_; refine sy_store 0 rfl rfl rfl rfl rfl rfl rfl rfl ?_)))
      have he2 : decide (e2 = 0) = false := by simpa using hne2
      refine sy_ov (ov_call rfl (fun w _ => rp_fine2 (.slice sp2 sn2 sc2) m2 e2 a2 false he2 w)) rfl rfl ?_
      repeat (first | refine sy_k rfl rfl ?_ | (refine gO ?_; refine sy_ov (ov_p rfl) rfl rfl ?_) | (refine sy_cond_t rfl ?_ ?_; (first | with_reducible rfl | assumption | omega | (simp <;> first | omega | assumption))))
      refine sy_drawE _ 4 [(0, false), (1, false), (2, false), (3, true)] (by kernel_rfl) rfl ((sk (sk (sd sr)))) ?_
      repeat (first | refine dre_rd (fun _ _ => ov_ld 0 rfl rfl rfl) rfl ?_ | refine dre_rd (fun _ _ => ov_fieldAddr rfl rfl rfl) rfl ?_ | refine dre_rd (fun _ _ => ov_build rfl rfl rfl) rfl ?_ | (refine dre_ef rfl ?_; refine sy_store 2 rfl rfl rfl rfl rfl rfl rfl rfl ?_; refine dre_ek (by repeat first | exact sr | apply sk | apply sd) ?_) | refine dre_end ?_)
      repeat (first | refine sy_k rfl rfl ?_ | (refine gO ?_; (refine gS ?_; refine sy_store 3 rfl rfl rfl rfl rfl rfl rfl rfl ?_)) | refine sy_rt ?_)
      exact ret_ccw 2 3 rfl rfl rfl rfl rfl rfl rfl rfl rfl fun w' hw' => ⟨_, [], hP, rfl, hw'.weaken (List.nil_sublist _)⟩
   | bad e' a' =>
    rw [hr] at hy4 hR
    simp only at hy4 hR
    obtain ⟨h1, h2, h3⟩ := hy4
    obtain ⟨g1, g2⟩ := hA (by rw [h1]; exact h3)
    have hne2 : e2 ≠ 0 := by rw [g1, h1]; exact h3
    have hP : PP s (.tuple #[.agg ⟨z6⟩, faultV e2 a2]) [] := by
     unfold PP; rw [hR, g1, g2, h1, h2]; exact ⟨rfl, rfl⟩
    repeat (first | refine sy_k rfl rfl ?_ | (refine gO ?_; first | refine sy_ov (ov_p rfl) rfl rfl ?_ | (refine gL ?_; refine sy_ov (ov_ld 0 rfl rfl rfl) rfl rfl ?_) | (refine gS ?_; refine sy_store 0 rfl rfl rfl rfl rfl rfl rfl rfl ?_)))
    have he2 : decide (e2 = 0) = false := by simpa using hne2
    refine sy_ov (ov_call rfl (fun w _ => rp_fine2 (.slice sp2 sn2 sc2) m2 e2 a2 false he2 w)) rfl rfl ?_
    repeat (first | refine sy_k rfl rfl ?_ | (refine gO ?_; refine sy_ov (ov_p rfl) rfl rfl ?_) | (refine sy_cond_t rfl ?_ ?_; (first | with_reducible rfl | assumption | omega | (simp <;> first | omega | assumption))))
    refine sy_drawE _ 4 [(0, false), (1, false), (2, false), (3, true)] (by kernel_rfl) rfl ((sk (sk (sd sr)))) ?_
    repeat (first | refine dre_rd (fun _ _ => ov_ld 0 rfl rfl rfl) rfl ?_ | refine dre_rd (fun _ _ => ov_fieldAddr rfl rfl rfl) rfl ?_ | refine dre_rd (fun _ _ => ov_build rfl rfl rfl) rfl ?_ | (refine dre_ef rfl ?_; refine sy_store 2 rfl rfl rfl rfl rfl rfl rfl rfl ?_; refine dre_ek (by repeat first | exact sr | apply sk | apply sd) ?_) | refine dre_end ?_)
    repeat (first | refine sy_k rfl rfl ?_ | (refine gO ?_; (refine gS ?_; refine sy_store 3 rfl rfl rfl rfl rfl rfl rfl rfl ?_)) | refine sy_rt ?_)
    exact ret_ccw 2 3 rfl rfl rfl rfl rfl rfl rfl rfl rfl fun w' hw' => ⟨_, [], hP, rfl, hw'.weaken (List.nil_sublist _)⟩
 · have hR : rawR s = .bad e a := by unfold rawR; rw [hL, if_pos he]
   have hP : PP s (.tuple #[.agg ⟨z6⟩, faultV e a]) [] := by unfold PP; rw [hR]; exact ⟨rfl, rfl⟩
   refine sy_enter rfl rfl ?_
   simp only [initFr]
   repeat (first | refine sy_k rfl rfl ?_ | (refine gO ?_; first | refine sy_ov (ov_p rfl) rfl rfl ?_ | (refine sy_alloc rfl rfl rfl ?_; intro _)))
   refine sy_calln rfl rfl (fun w _ => rscan_c s (by omega) w) ?_
   rintro _ _ ⟨p, q, rfl, rfl⟩
   rw [hL]
   dsimp only
   repeat (first | refine sy_k rfl rfl ?_ | (refine gO ?_; first | refine sy_ov (ov_p rfl) rfl rfl ?_ | (refine gL ?_; refine sy_ov (ov_ld 0 rfl rfl rfl) rfl rfl ?_) | (refine gS ?_; refine sy_store 0 rfl rfl rfl rfl rfl rfl rfl rfl ?_) | refine sy_ov (ov_fieldAddr rfl rfl rfl) rfl rfl ?_ | (refine sy_alloc rfl rfl rfl ?_; intro _)) | (refine sy_cond_t rfl ?_ ?_; (first | with_reducible rfl | assumption | omega | (simp <;> first | omega | assumption))))
   refine sy_drawE _ 3 [(0, false), (1, false), (2, true)] (by kernel_rfl) rfl ((sk (sk (sk (sd sr))))) ?_
   repeat (first | refine dre_rd (fun _ _ => ov_ld 0 rfl rfl rfl) rfl ?_ | refine dre_rd (fun _ _ => ov_build rfl rfl rfl) rfl ?_ | (refine dre_ef rfl ?_; refine sy_store 3 rfl rfl rfl rfl rfl rfl rfl rfl ?_; refine dre_ek (by repeat first | exact sr | apply sk | apply sd) ?_) | refine dre_end ?_)
   repeat (first | refine sy_k rfl rfl ?_ | (refine gO ?_; (refine gS ?_; refine sy_store 2 rfl rfl rfl rfl rfl rfl rfl rfl ?_)) | refine sy_rt ?_)
   exact ret_ccw 3 2 rfl rfl rfl rfl rfl rfl rfl rfl rfl fun w' hw' => ⟨_, [], hP, rfl, hw'.weaken (List.nil_sublist _)⟩
end Go.Proofs.YtldjakeigjngoaaGreat