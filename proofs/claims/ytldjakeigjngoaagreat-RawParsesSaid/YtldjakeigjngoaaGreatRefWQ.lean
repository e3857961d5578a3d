/- Contract: a value, as the document reads it: what is wrong, and values without others in them. -/
import Derived.Test.YtldjakeigjngoaaGreatBRR
import Derived.Test.YtldjakeigjngoaaGreatBRP
set_option linter.unusedVariables false
set_option linter.unusedSimpArgs false
namespace Go.Proofs.YtldjakeigjngoaaGreat
open Go.RowKit Bf
def PS.one (x : PS) : PS := ⟨x.off, x.l, x.c, x.m + 1, x.e, x.a⟩
theorem PS.Ok.one {x : PS} (h : x.Ok) : x.one.Ok := h.same rfl rfl
theorem PS.On.one (x : PS) : x.On x.one := ⟨0, by simp [PS.one], rfl, rfl⟩
theorem mkB_not {l : List TokT} (h : mkB l [91] = true) : mkB l [123] = false := by
 unfold mkB at h ⊢
 simp only [Bool.and_eq_true, decide_eq_true_eq] at h
 rw [h.2]; simp
section
variable {d : Nat} {x : PS} {t : TokT} (he : x.e = 0) (hm : x.m ≠ 4096) (hh : hdT x.l = t)
include he hm hh
theorem v_rec (hB : mkB x.l [123] = true) : valE (d + 1) x = (bodyR (valR d) true [125] x.l.tail (x.m + 1)).map fun r => .mk 5 t.2.1 0 [] r.1 r.2 := by
 rw [valE_ok he, ← hh]; simp only [valR]; rw [if_neg hm, if_pos hB]
theorem v_list (hA : mkB x.l [91] = true) : valE (d + 1) x = (bodyR (valR d) false [93] x.l.tail (x.m + 1)).map fun r => .mk 4 t.2.1 0 [] r.1 r.2 := by
 rw [valE_ok he, ← hh]; simp only [valR]; rw [if_neg hm, if_neg (by rw [mkB_not hA]; decide), if_pos hA]
variable (hB : mkB x.l [123] = false) (hA : mkB x.l [91] = false)
include hB hA
theorem v_int (h2 : t.1 = 2) : valE (d + 1) x = .ok (.mk 2 t.2.1 t.2.2.2.2 [] [] []) x.l.tail (x.m + 1) := by
 subst hh
 rw [valE_ok he]; simp only [valR]; rw [if_neg hm, if_neg (by rw [hB]; decide), if_neg (by rw [hA]; decide), if_pos h2]
theorem v_text (h3 : t.1 = 3) : valE (d + 1) x = .ok (.mk 3 t.2.1 0 t.2.2.2.1 [] []) x.l.tail (x.m + 1) := by
 subst hh
 rw [valE_ok he]; simp only [valR]; rw [if_neg hm, if_neg (by rw [hB]; decide), if_neg (by rw [hA]; decide), if_neg (by omega), if_pos h3]
theorem v_word (h1 : t.1 = 1) (hC : mkB x.l.tail [40] = false) : valE (d + 1) x = .ok (.mk 1 t.2.1 0 t.2.2.2.1 [] []) x.l.tail (x.m + 1) := by
 subst hh
 rw [valE_ok he]; simp only [valR]; rw [if_neg hm, if_neg (by rw [hB]; decide), if_neg (by rw [hA]; decide), if_neg (by omega), if_neg (by omega), if_pos h1, if_neg (by rw [hC]; decide)]
theorem v_call (h1 : t.1 = 1) (hC : mkB x.l.tail [40] = true) : valE (d + 1) x = (mustR [41] (valR d x.l.tail.tail (x.m + 1))).map fun v => .mk 6 t.2.1 0 t.2.2.2.1 [] [v] := by
 subst hh
 rw [valE_ok he]; simp only [valR]; rw [if_neg hm, if_neg (by rw [hB]; decide), if_neg (by rw [hA]; decide), if_neg (by omega), if_neg (by omega), if_pos h1, if_pos hC]
theorem v_odd (n1 : t.1 ≠ 1) (n2 : t.1 ≠ 2) (n3 : t.1 ≠ 3) : valE (d + 1) x = .bad x.one.odd.e x.one.odd.a := by
 subst hh
 rw [valE_ok he]; simp only [valR]; rw [if_neg hm, if_neg (by rw [hB]; decide), if_neg (by rw [hA]; decide), if_neg n2, if_neg n3, if_neg n1]
 exact oddR_eq (x := x.one) he
end
def RQ (g : Nat) (x : PS) (d : Nat) (w : World) (k : Int) : Prop := Calls Tryz.prog 24 #[.agg ⟨ptV g x⟩, .int .i64 k] w (PostN w (RVP g x (valE d x)))
set_option maxRecDepth 20000 in
set_option maxHeartbeats 4000000 in
theorem rval_bad (d : Nat) (g : Nat) (x : PS) (hx : x.Ok) (m0 : 0 ≤ x.m) (m1 : x.m ≤ 4096) (he : x.e ≠ 0) (k : Int) (w : World) (hT : TkAt g x w) : RQ g x d w k := by
 unfold RQ
 have hRV : RVP g x (valE d x) (.tuple #[.agg ⟨rawV (.mk 0 0 0 [] none 0 [] none 0 [])⟩, .agg ⟨ptV g x⟩]) [rawE [.mk 0 0 0 [] none 0 [] none 0 []]] := by
  refine ⟨.mk 0 0 0 [] none 0 [] none 0 [], x, rfl, rfl, .refl x, hx, m0, m1, ?_⟩
  rw [valE_bad he]; exact ⟨rfl, rfl, he⟩
 refine sy_enter rfl rfl ?_
 simp only [initFr]
 repeat (first | refine sy_k rfl rfl ?_ | (refine gO ?_; first | (refine gL ?_; refine sy_ov (ov_ld 2 rfl rfl rfl) rfl rfl ?_) | (refine sy_box rfl rfl rfl ?_; intro _) | (refine sy_alloc rfl rfl rfl ?_; intro _)))
 refine sy_ov (ov_call rfl (fun w _ => rp_fine g x false (by simp [he]) w)) rfl rfl ?_
 repeat (first | refine sy_k rfl rfl ?_ | (refine gO ?_; refine sy_ov (ov_p rfl) rfl rfl ?_) | (refine sy_cond_t rfl ?_ ?_; (first | with_reducible rfl | assumption | omega | (simp <;> first | omega | assumption))))
 refine sy_drawE _ 3 [(0, false), (1, false), (2, true)] (by kernel_rfl) rfl ((sk (sd sr))) ?_
 repeat (first | refine dre_rd (fun _ _ => ov_ld 1 rfl rfl rfl) rfl ?_ | refine dre_rd (fun _ _ => ov_build rfl rfl rfl) rfl ?_ | (refine dre_ef rfl ?_; refine sy_store 1 rfl rfl rfl rfl rfl rfl rfl rfl ?_; refine dre_ek (by repeat first | exact sr | apply sk | apply sd) ?_) | refine dre_end ?_)
 repeat (first | refine sy_k rfl rfl ?_ | (refine gO ?_; (refine gS ?_; refine sy_store 0 rfl rfl rfl rfl rfl rfl rfl rfl ?_)) | refine sy_rt ?_)
 exact ret_ccw 1 0 rfl rfl rfl rfl rfl rfl rfl rfl rfl fun w' hw' => ⟨_, _, hRV, rfl, (hw'.raw0 0 0 0 []).weaken (sk (List.nil_sublist _))⟩
theorem fail_rv {g : Nat} {x : PS} {d : Nat} {e a : Int} (hx : x.Ok) (m0 : 0 ≤ x.m) (m1 : x.m ≤ 4096) (he : x.e = 0) (hv : valE d x = .bad e (hdT x.l).2.1) (h0 : e ≠ 0) : RVP g x (valE d x) (.tuple #[.agg ⟨rawV (.mk 0 a 0 [] none 0 [] none 0 [])⟩, .agg ⟨ptV g (x.fail e)⟩]) [rawE [.mk 0 a 0 [] none 0 [] none 0 []]] := by
 have hf : x.fail e = ⟨x.off, x.l, x.c, x.m, e, (hdT x.l).2.1⟩ := by unfold PS.fail; rw [if_pos he]
 refine ⟨.mk 0 a 0 [] none 0 [] none 0 [], x.fail e, rfl, rfl, PS.On.fail x e, hx.fail e, by rw [hf]; exact m0, by rw [hf]; exact m1, ?_⟩
 rw [hv, hf]; exact ⟨rfl, rfl, h0⟩
set_option maxRecDepth 20000 in
set_option maxHeartbeats 4000000 in
theorem rval_deep (g : Nat) (x : PS) (hx : x.Ok) (m0 : 0 ≤ x.m) (m1 : x.m ≤ 4096) (he : x.e = 0) (w : World) (hT : TkAt g x w) : RQ g x 0 w 25 := by
 unfold RQ
 have hst : St (fun _ => False) w (fun w => TkAt g x w) := St.start (TkAt.bl g x) hT
 obtain ⟨t, ht, hh⟩ := hx.hd
 have hne := hx.ne
 have hRV := fail_rv (g := g) (d := 0) (e := 6) (a := t.2.1) hx m0 m1 he (by rw [valE_ok he]; rfl) (by decide)
 refine sy_enter rfl rfl ?_
 simp only [initFr]
 repeat (first | refine sy_k rfl rfl ?_ | (refine gO ?_; first | (refine gL ?_; refine sy_ov (ov_ld 2 rfl rfl rfl) rfl rfl ?_) | (refine sy_box rfl rfl rfl ?_; intro _) | (refine sy_alloc rfl rfl rfl ?_; intro _)))
 refine sy_ov (ov_call rfl (fun w _ => rp_fine g x true (by simp [he]) w)) rfl rfl ?_
 repeat (first | refine sy_k rfl rfl ?_ | (refine gO ?_; first | refine sy_ov (ov_p rfl) rfl rfl ?_ | (refine gL ?_; refine sy_ov (ov_ld 2 rfl rfl rfl) rfl rfl ?_) | refine sy_ov (ov_fieldAddr rfl rfl rfl) rfl rfl ?_ | (refine sy_ov (ov_indexAddr rfl rfl ?_ ?_) rfl rfl ?_; omega; omega)) | (refine sy_cond_f rfl ?_ ?_; (first | with_reducible rfl | assumption | omega | (simp <;> first | omega | assumption))))
 refine sy_ov (ov_loadxa (vs := tokV t) rfl rfl rfl (fun w hw j u hj => tk_at (hst.at hw) ht j hj)) rfl rfl ?_
 repeat (first | refine sy_k rfl rfl ?_ | (refine gO ?_; first | refine sy_ov (ov_p rfl) rfl rfl ?_ | (refine gL ?_; refine sy_ov (ov_ld 0 rfl rfl rfl) rfl rfl ?_) | (refine gS ?_; refine sy_store 0 rfl rfl rfl rfl rfl rfl rfl rfl ?_) | refine sy_ov (ov_fieldAddr rfl rfl rfl) rfl rfl ?_ | refine sy_ov (ov_build rfl rfl rfl) rfl rfl ?_ | (refine sy_alloc rfl rfl rfl ?_; intro _)) | (refine sy_cond_t rfl ?_ ?_; (first | with_reducible rfl | assumption | omega | (simp <;> first | omega | assumption))))
 refine sy_draw 3 (by kernel_rfl) ?_
 repeat (first | refine dr_op (ov_ld 0 rfl rfl rfl) rfl rfl ?_ | refine dr_op (ov_ld 4 rfl rfl rfl) rfl rfl ?_)
 refine dr_op (ov_call rfl (fun w hw => rp_fail g x hx 6 w (hst.at hw))) rfl rfl ?_
 repeat (refine dr_end ?_)
 repeat (first | refine sy_k rfl rfl ?_ | (refine gO ?_; (refine gS ?_; first | refine sy_store 2 rfl rfl rfl rfl rfl rfl rfl rfl ?_ | refine sy_store 3 rfl rfl rfl rfl rfl rfl rfl rfl ?_)) | refine sy_rt ?_)
 exact ret_ccw 3 2 rfl rfl rfl rfl rfl rfl rfl rfl rfl fun w' hw' => ⟨_, _, hRV, rfl, (hw'.raw0 0 t.2.1 0 []).weaken (sk (List.nil_sublist _))⟩
set_option maxRecDepth 20000 in
set_option maxHeartbeats 4000000 in
theorem rval_many (d : Nat) (g : Nat) (x : PS) (hx : x.Ok) (m0 : 0 ≤ x.m) (m1 : x.m ≤ 4096) (he : x.e = 0) (hd : d < 24) (hm : x.m = 4096) (w : World) (hT : TkAt g x w) : RQ g x (d + 1) w (24 - d) := by
 unfold RQ
 have hst : St (fun _ => False) w (fun w => TkAt g x w) := St.start (TkAt.bl g x) hT
 obtain ⟨t, ht, hh⟩ := hx.hd
 have hne := hx.ne
 have hRV := fail_rv (g := g) (d := d + 1) (e := 8) (a := t.2.1) hx m0 m1 he (by rw [valE_ok he]; simp only [valR]; rw [if_pos hm]) (by decide)
 refine sy_enter rfl rfl ?_
 simp only [initFr]
 repeat (first | refine sy_k rfl rfl ?_ | (refine gO ?_; first | (refine gL ?_; refine sy_ov (ov_ld 2 rfl rfl rfl) rfl rfl ?_) | (refine sy_box rfl rfl rfl ?_; intro _) | (refine sy_alloc rfl rfl rfl ?_; intro _)))
 refine sy_ov (ov_call rfl (fun w _ => rp_fine g x true (by simp [he]) w)) rfl rfl ?_
 repeat (first | refine sy_k rfl rfl ?_ | (refine gO ?_; first | refine sy_ov (ov_p rfl) rfl rfl ?_ | (refine gL ?_; refine sy_ov (ov_ld 2 rfl rfl rfl) rfl rfl ?_) | refine sy_ov (ov_fieldAddr rfl rfl rfl) rfl rfl ?_ | (refine sy_ov (ov_indexAddr rfl rfl ?_ ?_) rfl rfl ?_; omega; omega)) | (refine sy_cond_f rfl ?_ ?_; (first | with_reducible rfl | assumption | omega | (simp <;> first | omega | assumption))))
 refine sy_ov (ov_loadxa (vs := tokV t) rfl rfl rfl (fun w hw j u hj => tk_at (hst.at hw) ht j hj)) rfl rfl ?_
 repeat (first | refine sy_k rfl rfl ?_ | (refine gO ?_; first | refine sy_ov (ov_p rfl) rfl rfl ?_ | (refine gL ?_; first | refine sy_ov (ov_ld 0 rfl rfl rfl) rfl rfl ?_ | refine sy_ov (ov_ld 4 rfl rfl rfl) rfl rfl ?_) | (refine gS ?_; refine sy_store 0 rfl rfl rfl rfl rfl rfl rfl rfl ?_) | refine sy_ov (ov_fieldAddr rfl rfl rfl) rfl rfl ?_ | refine sy_ov (ov_build rfl rfl rfl) rfl rfl ?_ | (refine sy_alloc rfl rfl rfl ?_; intro _)) | (refine sy_cond_t rfl ?_ ?_; (first | with_reducible rfl | assumption | omega | (simp <;> first | omega | assumption))) | (refine sy_cond_f rfl ?_ ?_; (first | with_reducible rfl | assumption | omega | (simp <;> first | omega | assumption))))
 refine sy_draw 3 (by kernel_rfl) ?_
 repeat (first | refine dr_op (ov_ld 0 rfl rfl rfl) rfl rfl ?_ | refine dr_op (ov_ld 4 rfl rfl rfl) rfl rfl ?_)
 refine dr_op (ov_call rfl (fun w hw => rp_fail g x hx 8 w (hst.at hw))) rfl rfl ?_
 repeat (refine dr_end ?_)
 repeat (first | refine sy_k rfl rfl ?_ | (refine gO ?_; (refine gS ?_; first | refine sy_store 2 rfl rfl rfl rfl rfl rfl rfl rfl ?_ | refine sy_store 3 rfl rfl rfl rfl rfl rfl rfl rfl ?_)) | refine sy_rt ?_)
 exact ret_ccw 3 2 rfl rfl rfl rfl rfl rfl rfl rfl rfl fun w' hw' => ⟨_, _, hRV, rfl, (hw'.raw0 0 t.2.1 0 []).weaken (sk (List.nil_sublist _))⟩
set_option maxRecDepth 20000 in
set_option maxHeartbeats 4000000 in
theorem rval_odd (d : Nat) (g : Nat) (x : PS) (hx : x.Ok) (m0 : 0 ≤ x.m) (m1 : x.m ≤ 4096) (he : x.e = 0) (hd : d < 24) (hm : x.m ≠ 4096) (hA : mkB x.l [91] = false) (hB : mkB x.l [123] = false) (n1 : (hdT x.l).1 ≠ 1) (n2 : (hdT x.l).1 ≠ 2) (n3 : (hdT x.l).1 ≠ 3) (w : World) (hT : TkAt g x w) : RQ g x (d + 1) w (24 - d) := by
 unfold RQ
 have hst : St (fun _ => False) w (fun w => TkAt g x w) := St.start (TkAt.bl g x) hT
 obtain ⟨t, ht, hh⟩ := hx.hd
 have hne := hx.ne
 have hov := v_odd (d := d) he hm rfl hB hA n1 n2 n3
 rw [hh] at n1 n2 n3
 have hx1 : x.one.Ok := hx.one
 have hst1 : St (fun _ => False) w (fun w => TkAt g x.one w) := hst
 have hma := fun w h => rp_may g x.one hx1 [91] w h
 have hmb := fun w h => rp_may g x.one hx1 [123] w h
 have hb1 : x.one.mayB [91] = mkB x.l [91] := mayB_ok (x := x.one) he [91]
 have hb2 : x.one.mayB [123] = mkB x.l [123] := mayB_ok (x := x.one) he [123]
 have hm41 : x.m < 4096 := by omega
 have hRV : RVP g x (valE (d + 1) x) (.tuple #[.agg ⟨rawV (.mk 0 t.2.1 0 [] none 0 [] none 0 [])⟩, .agg ⟨ptV g x.one.odd⟩]) [rawE [.mk 0 t.2.1 0 [] none 0 [] none 0 []]] := by
  have hf := odd_bad (x := x.one) he
  have hml := PS.fail_l x.one (oddE (hdT x.one.l)).1
  refine ⟨.mk 0 t.2.1 0 [] none 0 [] none 0 [], x.one.odd, rfl, rfl, (PS.On.one x).trans (PS.On.fail _ _), hx1.fail _, by unfold PS.odd; rw [hml.2.2.2]; show 0 ≤ x.m + 1; omega, by unfold PS.odd; rw [hml.2.2.2]; show x.m + 1 ≤ 4096; omega, ?_⟩
  rw [hov]; exact ⟨rfl, rfl, hf.1⟩
 by_cases hlt : t.1 < 1
 · rw [hb1, hA, show x.one.may [91] = x.one from if_neg (by rw [hb1, hA]; decide)] at hma
   rw [hb2, hB, show x.one.may [123] = x.one from if_neg (by rw [hb2, hB]; decide)] at hmb
   refine sy_enter rfl rfl ?_
   simp only [initFr]
   repeat (first | refine sy_k rfl rfl ?_ | (refine gO ?_; first | (refine gL ?_; refine sy_ov (ov_ld 2 rfl rfl rfl) rfl rfl ?_) | (refine sy_box rfl rfl rfl ?_; intro _) | (refine sy_alloc rfl rfl rfl ?_; intro _)))
   refine sy_ov (ov_call rfl (fun w _ => rp_fine g x true (by simp [he]) w)) rfl rfl ?_
   repeat (first | refine sy_k rfl rfl ?_ | (refine gO ?_; first | refine sy_ov (ov_p rfl) rfl rfl ?_ | (refine gL ?_; refine sy_ov (ov_ld 2 rfl rfl rfl) rfl rfl ?_) | refine sy_ov (ov_fieldAddr rfl rfl rfl) rfl rfl ?_ | (refine sy_ov (ov_indexAddr rfl rfl ?_ ?_) rfl rfl ?_; omega; omega)) | (refine sy_cond_f rfl ?_ ?_; (first | with_reducible rfl | assumption | omega | (simp <;> first | omega | assumption))))
   refine sy_ov (ov_loadxa (vs := tokV t) rfl rfl rfl (fun w hw j u hj => tk_at (hst.at hw) ht j hj)) rfl rfl ?_
   repeat (first | refine sy_k rfl rfl ?_ | (refine gO ?_; first | refine sy_ov (ov_p rfl) rfl rfl ?_ | (refine gB ?_; (refine sy_ov (ov_ar rfl rfl rfl ?_ ?_) rfl rfl ?_; omega; omega)) | (refine gL ?_; first | refine sy_ov (ov_ld 0 rfl rfl rfl) rfl rfl ?_ | refine sy_ov (ov_ld 4 rfl rfl rfl) rfl rfl ?_) | (refine gS ?_; first | refine sy_store 0 rfl rfl rfl rfl rfl rfl rfl rfl ?_ | refine sy_store 4 rfl rfl rfl rfl rfl rfl rfl rfl ?_) | refine sy_ov (ov_fieldAddr rfl rfl rfl) rfl rfl ?_ | refine sy_ov (ov_build rfl rfl rfl) rfl rfl ?_ | (refine sy_alloc rfl rfl rfl ?_; intro _)) | (refine sy_cond_f rfl ?_ ?_; (first | with_reducible rfl | assumption | omega | (simp <;> first | omega | assumption))))
   refine sy_ov (ov_call rfl (fun w hw => hma w (hst1.at hw))) rfl rfl ?_
   repeat (first | refine sy_k rfl rfl ?_ | (refine gO ?_; first | refine sy_ov (ov_p rfl) rfl rfl ?_ | (refine gS ?_; refine sy_store 0 rfl rfl rfl rfl rfl rfl rfl rfl ?_) | (refine sy_alloc rfl rfl rfl ?_; intro _)) | (refine sy_cond_f rfl ?_ ?_; (first | with_reducible rfl | assumption | omega | (simp <;> first | omega | assumption))))
   refine sy_weaken (fun _ _ h => h) (sd sr) ?_
   repeat ((refine gO ?_; (refine gL ?_; refine sy_ov (ov_ld 4 rfl rfl rfl) rfl rfl ?_)))
   refine sy_ov (ov_call rfl (fun w hw => hmb w (hst1.at hw))) rfl rfl ?_
   repeat (first | refine sy_k rfl rfl ?_ | (refine gO ?_; first | refine sy_ov (ov_p rfl) rfl rfl ?_ | (refine gG ?_; (refine sy_guard_no rfl rfl rfl rfl rfl ?_ ?_; (first | with_reducible rfl | assumption | omega | (simp <;> first | omega | assumption)))) | (refine gL ?_; refine sy_ov (ov_ld 2 rfl rfl rfl) rfl rfl ?_) | (refine gS ?_; refine sy_store 0 rfl rfl rfl rfl rfl rfl rfl rfl ?_) | refine sy_ov (ov_pick rfl rfl rfl) rfl rfl ?_ | refine sy_ov (ov_fieldAddr rfl rfl rfl) rfl rfl ?_ | (refine sy_alloc rfl rfl rfl ?_; intro _)) | (refine sy_cond_t rfl ?_ ?_; (first | with_reducible rfl | assumption | omega | (simp <;> first | omega | assumption))) | (refine sy_cond_f rfl ?_ ?_; (first | with_reducible rfl | assumption | omega | (simp <;> first | omega | assumption))))
   refine sy_weaken (fun _ _ h => h) (sd sr) ?_
   skip
   refine sy_draw 3 (by kernel_rfl) ?_
   repeat (first | refine dr_op (ov_ld 0 rfl rfl rfl) rfl rfl ?_ | refine dr_op (ov_ld 4 rfl rfl rfl) rfl rfl ?_)
   refine dr_op (ov_call rfl (fun w hw => rp_wrong g x.one hx1 w (hst1.at hw))) rfl rfl ?_
   repeat (refine dr_end ?_)
   repeat (first | refine sy_k rfl rfl ?_ | (refine gO ?_; (refine gS ?_; first | refine sy_store 2 rfl rfl rfl rfl rfl rfl rfl rfl ?_ | refine sy_store 3 rfl rfl rfl rfl rfl rfl rfl rfl ?_)) | refine sy_rt ?_)
   exact ret_ccw 3 2 rfl rfl rfl rfl rfl rfl rfl rfl rfl fun w' hw' => ⟨_, _, hRV, rfl, (hw'.raw0 0 t.2.1 0 []).weaken (sk (List.nil_sublist _))⟩
 · have hgt : t.1 > 3 := by omega
   rw [hb1, hA, show x.one.may [91] = x.one from if_neg (by rw [hb1, hA]; decide)] at hma
   rw [hb2, hB, show x.one.may [123] = x.one from if_neg (by rw [hb2, hB]; decide)] at hmb
   refine sy_enter rfl rfl ?_
   simp only [initFr]
   repeat (first | refine sy_k rfl rfl ?_ | (refine gO ?_; first | (refine gL ?_; refine sy_ov (ov_ld 2 rfl rfl rfl) rfl rfl ?_) | (refine sy_box rfl rfl rfl ?_; intro _) | (refine sy_alloc rfl rfl rfl ?_; intro _)))
   refine sy_ov (ov_call rfl (fun w _ => rp_fine g x true (by simp [he]) w)) rfl rfl ?_
   repeat (first | refine sy_k rfl rfl ?_ | (refine gO ?_; first | refine sy_ov (ov_p rfl) rfl rfl ?_ | (refine gL ?_; refine sy_ov (ov_ld 2 rfl rfl rfl) rfl rfl ?_) | refine sy_ov (ov_fieldAddr rfl rfl rfl) rfl rfl ?_ | (refine sy_ov (ov_indexAddr rfl rfl ?_ ?_) rfl rfl ?_; omega; omega)) | (refine sy_cond_f rfl ?_ ?_; (first | with_reducible rfl | assumption | omega | (simp <;> first | omega | assumption))))
   refine sy_ov (ov_loadxa (vs := tokV t) rfl rfl rfl (fun w hw j u hj => tk_at (hst.at hw) ht j hj)) rfl rfl ?_
   repeat (first | refine sy_k rfl rfl ?_ | (refine gO ?_; first | refine sy_ov (ov_p rfl) rfl rfl ?_ | (refine gB ?_; (refine sy_ov (ov_ar rfl rfl rfl ?_ ?_) rfl rfl ?_; omega; omega)) | (refine gL ?_; first | refine sy_ov (ov_ld 0 rfl rfl rfl) rfl rfl ?_ | refine sy_ov (ov_ld 4 rfl rfl rfl) rfl rfl ?_) | (refine gS ?_; first | refine sy_store 0 rfl rfl rfl rfl rfl rfl rfl rfl ?_ | refine sy_store 4 rfl rfl rfl rfl rfl rfl rfl rfl ?_) | refine sy_ov (ov_fieldAddr rfl rfl rfl) rfl rfl ?_ | refine sy_ov (ov_build rfl rfl rfl) rfl rfl ?_ | (refine sy_alloc rfl rfl rfl ?_; intro _)) | (refine sy_cond_f rfl ?_ ?_; (first | with_reducible rfl | assumption | omega | (simp <;> first | omega | assumption))))
   refine sy_ov (ov_call rfl (fun w hw => hma w (hst1.at hw))) rfl rfl ?_
   repeat (first | refine sy_k rfl rfl ?_ | (refine gO ?_; first | refine sy_ov (ov_p rfl) rfl rfl ?_ | (refine gS ?_; refine sy_store 0 rfl rfl rfl rfl rfl rfl rfl rfl ?_) | (refine sy_alloc rfl rfl rfl ?_; intro _)) | (refine sy_cond_f rfl ?_ ?_; (first | with_reducible rfl | assumption | omega | (simp <;> first | omega | assumption))))
   refine sy_weaken (fun _ _ h => h) (sd sr) ?_
   repeat ((refine gO ?_; (refine gL ?_; refine sy_ov (ov_ld 4 rfl rfl rfl) rfl rfl ?_)))
   refine sy_ov (ov_call rfl (fun w hw => hmb w (hst1.at hw))) rfl rfl ?_
   repeat (first | refine sy_k rfl rfl ?_ | (refine gO ?_; first | refine sy_ov (ov_p rfl) rfl rfl ?_ | (refine gG ?_; (refine sy_guard_yes rfl rfl rfl rfl rfl ?_ ?_; (first | with_reducible rfl | assumption | omega | (simp <;> first | omega | assumption)))) | (refine gL ?_; refine sy_ov (ov_ld 2 rfl rfl rfl) rfl rfl ?_) | (refine gS ?_; refine sy_store 0 rfl rfl rfl rfl rfl rfl rfl rfl ?_) | (refine sy_ov (ov_pick_f rfl rfl ?_) rfl rfl ?_; focus (with_reducible rfl)) | refine sy_ov (ov_fieldAddr rfl rfl rfl) rfl rfl ?_ | (refine sy_alloc rfl rfl rfl ?_; intro _)) | (refine sy_cond_t rfl ?_ ?_; (first | with_reducible rfl | assumption | omega | (simp <;> first | omega | assumption))) | (refine sy_cond_f rfl ?_ ?_; (first | with_reducible rfl | assumption | omega | (simp <;> first | omega | assumption))))
   refine sy_weaken (fun _ _ h => h) (sd sr) ?_
   skip
   refine sy_draw 3 (by kernel_rfl) ?_
   repeat (first | refine dr_op (ov_ld 0 rfl rfl rfl) rfl rfl ?_ | refine dr_op (ov_ld 4 rfl rfl rfl) rfl rfl ?_)
   refine dr_op (ov_call rfl (fun w hw => rp_wrong g x.one hx1 w (hst1.at hw))) rfl rfl ?_
   repeat (refine dr_end ?_)
   repeat (first | refine sy_k rfl rfl ?_ | (refine gO ?_; (refine gS ?_; first | refine sy_store 2 rfl rfl rfl rfl rfl rfl rfl rfl ?_ | refine sy_store 3 rfl rfl rfl rfl rfl rfl rfl rfl ?_)) | refine sy_rt ?_)
   exact ret_ccw 3 2 rfl rfl rfl rfl rfl rfl rfl rfl rfl fun w' hw' => ⟨_, _, hRV, rfl, (hw'.raw0 0 t.2.1 0 []).weaken (sk (List.nil_sublist _))⟩
set_option maxRecDepth 20000 in
set_option maxHeartbeats 8000000 in
theorem rval_int (d : Nat) (g : Nat) (x : PS) (hx : x.Ok) (m0 : 0 ≤ x.m) (m1 : x.m ≤ 4096) (he : x.e = 0) (hd : d < 24) (hm : x.m ≠ 4096) (hA : mkB x.l [91] = false) (hB : mkB x.l [123] = false) (hk' : (hdT x.l).1 = 2) (w : World) (hT : TkAt g x w) : RQ g x (d + 1) w (24 - d) := by
 unfold RQ
 have hst : St (fun _ => False) w (fun w => TkAt g x w) := St.start (TkAt.bl g x) hT
 obtain ⟨t, ht, hh⟩ := hx.hd
 have hne := hx.ne
 have hk : t.1 = 2 := by rw [← hh]; exact hk'
 have hov := v_int (d := d) he hm hh hB hA hk
 have hx1 : x.one.Ok := hx.one
 have hst1 : St (fun _ => False) w (fun w => TkAt g x.one w) := hst
 have hma := fun w h => rp_may g x.one hx1 [91] w h
 have hmb := fun w h => rp_may g x.one hx1 [123] w h
 have hb1 : x.one.mayB [91] = mkB x.l [91] := mayB_ok (x := x.one) he [91]
 have hb2 : x.one.mayB [123] = mkB x.l [123] := mayB_ok (x := x.one) he [123]
 have hm41 : x.m < 4096 := by omega
 have hany := fun w h => rp_any g x.one hx1 2 (by decide) w h
 have hab : x.one.anyB 2 = true := by unfold PS.anyB; show (decide (x.e = 0) && decide ((hdT x.l).1 = 2)) = true; rw [hh]; simp [he, hk]
 rw [show x.one.any 2 = x.one.adv from if_pos hab, show x.one.tok 2 = t by unfold PS.tok; rw [if_pos hab]; exact hh] at hany
 have hadv : x.one.adv.Ok := hx1.adv (by show (hdT x.l).1 ≠ 0; rw [hh, hk]; decide)
 have hoa : x.On x.one.adv := (PS.On.one x).trans (.adv _)
 obtain ⟨nzA, nzB⟩ := hx.nz t (List.mem_of_getElem? ht)
 obtain ⟨tk, ta, te, tx, tn⟩ := t
 simp only at hk nzA nzB
 subst hk
 have htx : tx = [] := nzA rfl
 subst htx
 have hRV : RVP g x (valE (d + 1) x) (.tuple #[.agg ⟨rawV (.mk 2 ta tn [] none 0 [] none 0 [])⟩, .agg ⟨ptV g x.one.adv⟩]) [rawE [.mk 2 ta tn [] none 0 [] none 0 []]] := by
  refine ⟨.mk 2 ta tn [] none 0 [] none 0 [], x.one.adv, rfl, rfl, hoa, hadv, by show 0 ≤ x.m + 1; omega, by show x.m + 1 ≤ 4096; omega, ?_⟩
  rw [hov]; exact ⟨he, rfl, rfl, rfl⟩
 rw [hb1, hA, show x.one.may [91] = x.one from if_neg (by rw [hb1, hA]; decide)] at hma
 rw [hb2, hB, show x.one.may [123] = x.one from if_neg (by rw [hb2, hB]; decide)] at hmb
 refine sy_enter rfl rfl ?_
 simp only [initFr]
 repeat (first | refine sy_k rfl rfl ?_ | (refine gO ?_; first | (refine gL ?_; refine sy_ov (ov_ld 2 rfl rfl rfl) rfl rfl ?_) | (refine sy_box rfl rfl rfl ?_; intro _) | (refine sy_alloc rfl rfl rfl ?_; intro _)))
 refine sy_ov (ov_call rfl (fun w _ => rp_fine g x true (by simp [he]) w)) rfl rfl ?_
 repeat (first | refine sy_k rfl rfl ?_ | (refine gO ?_; first | refine sy_ov (ov_p rfl) rfl rfl ?_ | (refine gL ?_; refine sy_ov (ov_ld 2 rfl rfl rfl) rfl rfl ?_) | refine sy_ov (ov_fieldAddr rfl rfl rfl) rfl rfl ?_ | (refine sy_ov (ov_indexAddr rfl rfl ?_ ?_) rfl rfl ?_; omega; omega)) | (refine sy_cond_f rfl ?_ ?_; (first | with_reducible rfl | assumption | omega | (simp <;> first | omega | assumption))))
 refine sy_ov (ov_loadxa (vs := tokV (2, ta, te, [], tn)) rfl rfl rfl (fun w hw j u hj => tk_at (hst.at hw) ht j hj)) rfl rfl ?_
 repeat (first | refine sy_k rfl rfl ?_ | (refine gO ?_; first | refine sy_ov (ov_p rfl) rfl rfl ?_ | (refine gB ?_; (refine sy_ov (ov_ar rfl rfl rfl ?_ ?_) rfl rfl ?_; omega; omega)) | (refine gL ?_; first | refine sy_ov (ov_ld 0 rfl rfl rfl) rfl rfl ?_ | refine sy_ov (ov_ld 4 rfl rfl rfl) rfl rfl ?_) | (refine gS ?_; first | refine sy_store 0 rfl rfl rfl rfl rfl rfl rfl rfl ?_ | refine sy_store 4 rfl rfl rfl rfl rfl rfl rfl rfl ?_) | refine sy_ov (ov_fieldAddr rfl rfl rfl) rfl rfl ?_ | refine sy_ov (ov_build rfl rfl rfl) rfl rfl ?_ | (refine sy_alloc rfl rfl rfl ?_; intro _)) | (refine sy_cond_f rfl ?_ ?_; (first | with_reducible rfl | assumption | omega | (simp <;> first | omega | assumption))))
 refine sy_ov (ov_call rfl (fun w hw => hma w (hst1.at hw))) rfl rfl ?_
 repeat (first | refine sy_k rfl rfl ?_ | (refine gO ?_; first | refine sy_ov (ov_p rfl) rfl rfl ?_ | (refine gS ?_; refine sy_store 0 rfl rfl rfl rfl rfl rfl rfl rfl ?_) | (refine sy_alloc rfl rfl rfl ?_; intro _)) | (refine sy_cond_f rfl ?_ ?_; (first | with_reducible rfl | assumption | omega | (simp <;> first | omega | assumption))))
 refine sy_weaken (fun _ _ h => h) (sd sr) ?_
 repeat ((refine gO ?_; (refine gL ?_; refine sy_ov (ov_ld 4 rfl rfl rfl) rfl rfl ?_)))
 refine sy_ov (ov_call rfl (fun w hw => hmb w (hst1.at hw))) rfl rfl ?_
 repeat (first | refine sy_k rfl rfl ?_ | (refine gO ?_; first | refine sy_ov (ov_p rfl) rfl rfl ?_ | (refine gG ?_; (refine sy_guard_yes rfl rfl rfl rfl rfl ?_ ?_; (first | with_reducible rfl | assumption | omega | (simp <;> first | omega | assumption)))) | (refine gL ?_; refine sy_ov (ov_ld 2 rfl rfl rfl) rfl rfl ?_) | (refine gS ?_; refine sy_store 0 rfl rfl rfl rfl rfl rfl rfl rfl ?_) | (refine sy_ov (ov_pick_f rfl rfl ?_) rfl rfl ?_; focus (with_reducible rfl)) | refine sy_ov (ov_fieldAddr rfl rfl rfl) rfl rfl ?_ | (refine sy_alloc rfl rfl rfl ?_; intro _)) | (refine sy_cond_f rfl ?_ ?_; (first | with_reducible rfl | assumption | omega | (simp <;> first | omega | assumption))))
 refine sy_weaken (fun _ _ h => h) (sd sr) ?_
 repeat ((refine gO ?_; first | (refine gL ?_; first | refine sy_ov (ov_ld 1 rfl rfl rfl) rfl rfl ?_ | refine sy_ov (ov_ld 4 rfl rfl rfl) rfl rfl ?_) | refine sy_ov (ov_fieldAddr rfl rfl rfl) rfl rfl ?_))
 refine sy_ov (ov_call rfl (fun w hw => hany w (hst1.at hw))) rfl rfl ?_
 repeat (first | refine sy_k rfl rfl ?_ | (refine gO ?_; first | refine sy_ov (ov_p rfl) rfl rfl ?_ | (refine gL ?_; refine sy_ov (ov_ld 3 rfl rfl rfl) rfl rfl ?_) | (refine gS ?_; first | refine sy_store 0 rfl rfl rfl rfl rfl rfl rfl rfl ?_ | refine sy_store 1 rfl rfl rfl rfl rfl rfl rfl rfl ?_ | refine sy_store 2 rfl rfl rfl rfl rfl rfl rfl rfl ?_) | refine sy_ov (ov_fieldAddr rfl rfl rfl) rfl rfl ?_ | (refine sy_alloc rfl rfl rfl ?_; intro _)) | (refine sy_cond_t rfl ?_ ?_; (first | with_reducible rfl | assumption | omega | (simp <;> first | omega | assumption))) | (refine sy_cond_f rfl ?_ ?_; (first | with_reducible rfl | assumption | omega | (simp <;> first | omega | assumption))))
 refine sy_drawE _ 3 [(0, false), (1, false), (2, true)] (by kernel_rfl) rfl ((sk (sk (sk (sk (sk (sd sr))))))) ?_
 repeat (first | refine dre_rd (fun _ _ => ov_ld 0 rfl rfl rfl) rfl ?_ | refine dre_rd (fun _ _ => ov_ld 2 rfl rfl rfl) rfl ?_ | (refine dre_ef rfl ?_; refine sy_store 5 rfl rfl rfl rfl rfl rfl rfl rfl ?_; refine dre_ek (by repeat first | exact sr | apply sk | apply sd) ?_) | refine dre_end ?_)
 repeat (first | refine sy_k rfl rfl ?_ | (refine gO ?_; (refine gS ?_; refine sy_store 4 rfl rfl rfl rfl rfl rfl rfl rfl ?_)) | refine sy_rt ?_)
 exact ret_ccw 5 4 rfl rfl rfl rfl rfl rfl rfl rfl rfl fun w' hw' => ⟨_, _, hRV, rfl, (hw'.raw0 2 ta tn []).weaken (sk (List.nil_sublist _))⟩
set_option maxRecDepth 20000 in
set_option maxHeartbeats 8000000 in
theorem rval_text (d : Nat) (g : Nat) (x : PS) (hx : x.Ok) (m0 : 0 ≤ x.m) (m1 : x.m ≤ 4096) (he : x.e = 0) (hd : d < 24) (hm : x.m ≠ 4096) (hA : mkB x.l [91] = false) (hB : mkB x.l [123] = false) (hk' : (hdT x.l).1 = 3) (w : World) (hT : TkAt g x w) : RQ g x (d + 1) w (24 - d) := by
 unfold RQ
 have hst : St (fun _ => False) w (fun w => TkAt g x w) := St.start (TkAt.bl g x) hT
 obtain ⟨t, ht, hh⟩ := hx.hd
 have hne := hx.ne
 have hk : t.1 = 3 := by rw [← hh]; exact hk'
 have hov := v_text (d := d) he hm hh hB hA hk
 have hx1 : x.one.Ok := hx.one
 have hst1 : St (fun _ => False) w (fun w => TkAt g x.one w) := hst
 have hma := fun w h => rp_may g x.one hx1 [91] w h
 have hmb := fun w h => rp_may g x.one hx1 [123] w h
 have hb1 : x.one.mayB [91] = mkB x.l [91] := mayB_ok (x := x.one) he [91]
 have hb2 : x.one.mayB [123] = mkB x.l [123] := mayB_ok (x := x.one) he [123]
 have hm41 : x.m < 4096 := by omega
 have hany := fun w h => rp_any g x.one hx1 3 (by decide) w h
 have hab : x.one.anyB 3 = true := by unfold PS.anyB; show (decide (x.e = 0) && decide ((hdT x.l).1 = 3)) = true; rw [hh]; simp [he, hk]
 rw [show x.one.any 3 = x.one.adv from if_pos hab, show x.one.tok 3 = t by unfold PS.tok; rw [if_pos hab]; exact hh] at hany
 have hadv : x.one.adv.Ok := hx1.adv (by show (hdT x.l).1 ≠ 0; rw [hh, hk]; decide)
 have hoa : x.On x.one.adv := (PS.On.one x).trans (.adv _)
 obtain ⟨nzA, nzB⟩ := hx.nz t (List.mem_of_getElem? ht)
 obtain ⟨tk, ta, te, tx, tn⟩ := t
 simp only at hk nzA nzB
 subst hk
 have htn : tn = 0 := nzB (by decide)
 subst htn
 have hRV : RVP g x (valE (d + 1) x) (.tuple #[.agg ⟨rawV (.mk 3 ta 0 tx none 0 [] none 0 [])⟩, .agg ⟨ptV g x.one.adv⟩]) [rawE [.mk 3 ta 0 tx none 0 [] none 0 []]] := by
  refine ⟨.mk 3 ta 0 tx none 0 [] none 0 [], x.one.adv, rfl, rfl, hoa, hadv, by show 0 ≤ x.m + 1; omega, by show x.m + 1 ≤ 4096; omega, ?_⟩
  rw [hov]; exact ⟨he, rfl, rfl, rfl⟩
 rw [hb1, hA, show x.one.may [91] = x.one from if_neg (by rw [hb1, hA]; decide)] at hma
 rw [hb2, hB, show x.one.may [123] = x.one from if_neg (by rw [hb2, hB]; decide)] at hmb
 refine sy_enter rfl rfl ?_
 simp only [initFr]
 repeat (first | refine sy_k rfl rfl ?_ | (refine gO ?_; first | (refine gL ?_; refine sy_ov (ov_ld 2 rfl rfl rfl) rfl rfl ?_) | (refine sy_box rfl rfl rfl ?_; intro _) | (refine sy_alloc rfl rfl rfl ?_; intro _)))
 refine sy_ov (ov_call rfl (fun w _ => rp_fine g x true (by simp [he]) w)) rfl rfl ?_
 repeat (first | refine sy_k rfl rfl ?_ | (refine gO ?_; first | refine sy_ov (ov_p rfl) rfl rfl ?_ | (refine gL ?_; refine sy_ov (ov_ld 2 rfl rfl rfl) rfl rfl ?_) | refine sy_ov (ov_fieldAddr rfl rfl rfl) rfl rfl ?_ | (refine sy_ov (ov_indexAddr rfl rfl ?_ ?_) rfl rfl ?_; omega; omega)) | (refine sy_cond_f rfl ?_ ?_; (first | with_reducible rfl | assumption | omega | (simp <;> first | omega | assumption))))
 refine sy_ov (ov_loadxa (vs := tokV (3, ta, te, tx, 0)) rfl rfl rfl (fun w hw j u hj => tk_at (hst.at hw) ht j hj)) rfl rfl ?_
 repeat (first | refine sy_k rfl rfl ?_ | (refine gO ?_; first | refine sy_ov (ov_p rfl) rfl rfl ?_ | (refine gB ?_; (refine sy_ov (ov_ar rfl rfl rfl ?_ ?_) rfl rfl ?_; omega; omega)) | (refine gL ?_; first | refine sy_ov (ov_ld 0 rfl rfl rfl) rfl rfl ?_ | refine sy_ov (ov_ld 4 rfl rfl rfl) rfl rfl ?_) | (refine gS ?_; first | refine sy_store 0 rfl rfl rfl rfl rfl rfl rfl rfl ?_ | refine sy_store 4 rfl rfl rfl rfl rfl rfl rfl rfl ?_) | refine sy_ov (ov_fieldAddr rfl rfl rfl) rfl rfl ?_ | refine sy_ov (ov_build rfl rfl rfl) rfl rfl ?_ | (refine sy_alloc rfl rfl rfl ?_; intro _)) | (refine sy_cond_f rfl ?_ ?_; (first | with_reducible rfl | assumption | omega | (simp <;> first | omega | assumption))))
 refine sy_ov (ov_call rfl (fun w hw => hma w (hst1.at hw))) rfl rfl ?_
 repeat (first | refine sy_k rfl rfl ?_ | (refine gO ?_; first | refine sy_ov (ov_p rfl) rfl rfl ?_ | (refine gS ?_; refine sy_store 0 rfl rfl rfl rfl rfl rfl rfl rfl ?_) | (refine sy_alloc rfl rfl rfl ?_; intro _)) | (refine sy_cond_f rfl ?_ ?_; (first | with_reducible rfl | assumption | omega | (simp <;> first | omega | assumption))))
 refine sy_weaken (fun _ _ h => h) (sd sr) ?_
 repeat ((refine gO ?_; (refine gL ?_; refine sy_ov (ov_ld 4 rfl rfl rfl) rfl rfl ?_)))
 refine sy_ov (ov_call rfl (fun w hw => hmb w (hst1.at hw))) rfl rfl ?_
 repeat (first | refine sy_k rfl rfl ?_ | (refine gO ?_; first | refine sy_ov (ov_p rfl) rfl rfl ?_ | (refine gG ?_; (refine sy_guard_yes rfl rfl rfl rfl rfl ?_ ?_; (first | with_reducible rfl | assumption | omega | (simp <;> first | omega | assumption)))) | (refine gL ?_; refine sy_ov (ov_ld 2 rfl rfl rfl) rfl rfl ?_) | (refine gS ?_; refine sy_store 0 rfl rfl rfl rfl rfl rfl rfl rfl ?_) | (refine sy_ov (ov_pick_f rfl rfl ?_) rfl rfl ?_; focus (with_reducible rfl)) | refine sy_ov (ov_fieldAddr rfl rfl rfl) rfl rfl ?_ | (refine sy_alloc rfl rfl rfl ?_; intro _)) | (refine sy_cond_f rfl ?_ ?_; (first | with_reducible rfl | assumption | omega | (simp <;> first | omega | assumption))))
 refine sy_weaken (fun _ _ h => h) (sd sr) ?_
 repeat ((refine gO ?_; first | (refine gL ?_; first | refine sy_ov (ov_ld 1 rfl rfl rfl) rfl rfl ?_ | refine sy_ov (ov_ld 4 rfl rfl rfl) rfl rfl ?_) | refine sy_ov (ov_fieldAddr rfl rfl rfl) rfl rfl ?_))
 refine sy_ov (ov_call rfl (fun w hw => hany w (hst1.at hw))) rfl rfl ?_
 repeat (first | refine sy_k rfl rfl ?_ | (refine gO ?_; first | refine sy_ov (ov_p rfl) rfl rfl ?_ | (refine gL ?_; refine sy_ov (ov_ld 3 rfl rfl rfl) rfl rfl ?_) | (refine gS ?_; first | refine sy_store 0 rfl rfl rfl rfl rfl rfl rfl rfl ?_ | refine sy_store 1 rfl rfl rfl rfl rfl rfl rfl rfl ?_ | refine sy_store 2 rfl rfl rfl rfl rfl rfl rfl rfl ?_) | refine sy_ov (ov_fieldAddr rfl rfl rfl) rfl rfl ?_ | (refine sy_alloc rfl rfl rfl ?_; intro _)) | (refine sy_cond_t rfl ?_ ?_; (first | with_reducible rfl | assumption | omega | (simp <;> first | omega | assumption))) | (refine sy_cond_f rfl ?_ ?_; (first | with_reducible rfl | assumption | omega | (simp <;> first | omega | assumption))))
 refine sy_drawE _ 3 [(0, false), (1, false), (2, true)] (by kernel_rfl) rfl ((sk (sk (sk (sk (sk (sd sr))))))) ?_
 repeat (first | refine dre_rd (fun _ _ => ov_ld 0 rfl rfl rfl) rfl ?_ | refine dre_rd (fun _ _ => ov_ld 2 rfl rfl rfl) rfl ?_ | (refine dre_ef rfl ?_; refine sy_store 5 rfl rfl rfl rfl rfl rfl rfl rfl ?_; refine dre_ek (by repeat first | exact sr | apply sk | apply sd) ?_) | refine dre_end ?_)
 repeat (first | refine sy_k rfl rfl ?_ | (refine gO ?_; (refine gS ?_; refine sy_store 4 rfl rfl rfl rfl rfl rfl rfl rfl ?_)) | refine sy_rt ?_)
 exact ret_ccw 5 4 rfl rfl rfl rfl rfl rfl rfl rfl rfl fun w' hw' => ⟨_, _, hRV, rfl, (hw'.raw0 3 ta 0 tx).weaken (sk (List.nil_sublist _))⟩
set_option maxRecDepth 20000 in
set_option maxHeartbeats 8000000 in
theorem rval_word (d : Nat) (g : Nat) (x : PS) (hx : x.Ok) (m0 : 0 ≤ x.m) (m1 : x.m ≤ 4096) (he : x.e = 0) (hd : d < 24) (hm : x.m ≠ 4096) (hA : mkB x.l [91] = false) (hB : mkB x.l [123] = false) (hk' : (hdT x.l).1 = 1) (hC : mkB x.l.tail [40] = false) (w : World) (hT : TkAt g x w) : RQ g x (d + 1) w (24 - d) := by
 unfold RQ
 have hst : St (fun _ => False) w (fun w => TkAt g x w) := St.start (TkAt.bl g x) hT
 obtain ⟨t, ht, hh⟩ := hx.hd
 have hne := hx.ne
 have hk : t.1 = 1 := by rw [← hh]; exact hk'
 have hov := v_word (d := d) he hm hh hB hA hk hC
 have hx1 : x.one.Ok := hx.one
 have hst1 : St (fun _ => False) w (fun w => TkAt g x.one w) := hst
 have hma := fun w h => rp_may g x.one hx1 [91] w h
 have hmb := fun w h => rp_may g x.one hx1 [123] w h
 have hb1 : x.one.mayB [91] = mkB x.l [91] := mayB_ok (x := x.one) he [91]
 have hb2 : x.one.mayB [123] = mkB x.l [123] := mayB_ok (x := x.one) he [123]
 have hm41 : x.m < 4096 := by omega
 have hany := fun w h => rp_any g x.one hx1 1 (by decide) w h
 have hab : x.one.anyB 1 = true := by unfold PS.anyB; show (decide (x.e = 0) && decide ((hdT x.l).1 = 1)) = true; rw [hh]; simp [he, hk]
 rw [show x.one.any 1 = x.one.adv from if_pos hab, show x.one.tok 1 = t by unfold PS.tok; rw [if_pos hab]; exact hh] at hany
 have hadv : x.one.adv.Ok := hx1.adv (by show (hdT x.l).1 ≠ 0; rw [hh, hk]; decide)
 have hoa : x.On x.one.adv := (PS.On.one x).trans (.adv _)
 obtain ⟨nzA, nzB⟩ := hx.nz t (List.mem_of_getElem? ht)
 obtain ⟨tk, ta, te, tx, tn⟩ := t
 simp only at hk nzA nzB
 subst hk
 have htn : tn = 0 := nzB (by decide)
 subst htn
 have hmc := fun w h => rp_may g x.one.adv hadv [40] w h
 have hb3 : x.one.adv.mayB [40] = false := by rw [mayB_ok (x := x.one.adv) he [40]]; exact hC
 rw [hb3, show x.one.adv.may [40] = x.one.adv from if_neg (by rw [hb3]; decide)] at hmc
 have hRV : RVP g x (valE (d + 1) x) (.tuple #[.agg ⟨rawV (.mk 1 ta 0 tx none 0 [] none 0 [])⟩, .agg ⟨ptV g x.one.adv⟩]) [rawE [.mk 1 ta 0 tx none 0 [] none 0 []]] := by
  refine ⟨.mk 1 ta 0 tx none 0 [] none 0 [], x.one.adv, rfl, rfl, hoa, hadv, by show 0 ≤ x.m + 1; omega, by show x.m + 1 ≤ 4096; omega, ?_⟩
  rw [hov]; exact ⟨he, rfl, rfl, rfl⟩
 rw [hb1, hA, show x.one.may [91] = x.one from if_neg (by rw [hb1, hA]; decide)] at hma
 rw [hb2, hB, show x.one.may [123] = x.one from if_neg (by rw [hb2, hB]; decide)] at hmb
 refine sy_enter rfl rfl ?_
 simp only [initFr]
 repeat (first | refine sy_k rfl rfl ?_ | (refine gO ?_; first | (refine gL ?_; refine sy_ov (ov_ld 2 rfl rfl rfl) rfl rfl ?_) | (refine sy_box rfl rfl rfl ?_; intro _) | (refine sy_alloc rfl rfl rfl ?_; intro _)))
 refine sy_ov (ov_call rfl (fun w _ => rp_fine g x true (by simp [he]) w)) rfl rfl ?_
 repeat (first | refine sy_k rfl rfl ?_ | (refine gO ?_; first | refine sy_ov (ov_p rfl) rfl rfl ?_ | (refine gL ?_; refine sy_ov (ov_ld 2 rfl rfl rfl) rfl rfl ?_) | refine sy_ov (ov_fieldAddr rfl rfl rfl) rfl rfl ?_ | (refine sy_ov (ov_indexAddr rfl rfl ?_ ?_) rfl rfl ?_; omega; omega)) | (refine sy_cond_f rfl ?_ ?_; (first | with_reducible rfl | assumption | omega | (simp <;> first | omega | assumption))))
 refine sy_ov (ov_loadxa (vs := tokV (1, ta, te, tx, 0)) rfl rfl rfl (fun w hw j u hj => tk_at (hst.at hw) ht j hj)) rfl rfl ?_
 repeat (first | refine sy_k rfl rfl ?_ | (refine gO ?_; first | refine sy_ov (ov_p rfl) rfl rfl ?_ | (refine gB ?_; (refine sy_ov (ov_ar rfl rfl rfl ?_ ?_) rfl rfl ?_; omega; omega)) | (refine gL ?_; first | refine sy_ov (ov_ld 0 rfl rfl rfl) rfl rfl ?_ | refine sy_ov (ov_ld 4 rfl rfl rfl) rfl rfl ?_) | (refine gS ?_; first | refine sy_store 0 rfl rfl rfl rfl rfl rfl rfl rfl ?_ | refine sy_store 4 rfl rfl rfl rfl rfl rfl rfl rfl ?_) | refine sy_ov (ov_fieldAddr rfl rfl rfl) rfl rfl ?_ | refine sy_ov (ov_build rfl rfl rfl) rfl rfl ?_ | (refine sy_alloc rfl rfl rfl ?_; intro _)) | (refine sy_cond_f rfl ?_ ?_; (first | with_reducible rfl | assumption | omega | (simp <;> first | omega | assumption))))
 refine sy_ov (ov_call rfl (fun w hw => hma w (hst1.at hw))) rfl rfl ?_
 repeat (first | refine sy_k rfl rfl ?_ | (refine gO ?_; first | refine sy_ov (ov_p rfl) rfl rfl ?_ | (refine gS ?_; refine sy_store 0 rfl rfl rfl rfl rfl rfl rfl rfl ?_) | (refine sy_alloc rfl rfl rfl ?_; intro _)) | (refine sy_cond_f rfl ?_ ?_; (first | with_reducible rfl | assumption | omega | (simp <;> first | omega | assumption))))
 refine sy_weaken (fun _ _ h => h) (sd sr) ?_
 repeat ((refine gO ?_; (refine gL ?_; refine sy_ov (ov_ld 4 rfl rfl rfl) rfl rfl ?_)))
 refine sy_ov (ov_call rfl (fun w hw => hmb w (hst1.at hw))) rfl rfl ?_
 repeat (first | refine sy_k rfl rfl ?_ | (refine gO ?_; first | refine sy_ov (ov_p rfl) rfl rfl ?_ | (refine gG ?_; (refine sy_guard_yes rfl rfl rfl rfl rfl ?_ ?_; (first | with_reducible rfl | assumption | omega | (simp <;> first | omega | assumption)))) | (refine gL ?_; refine sy_ov (ov_ld 2 rfl rfl rfl) rfl rfl ?_) | (refine gS ?_; refine sy_store 0 rfl rfl rfl rfl rfl rfl rfl rfl ?_) | (refine sy_ov (ov_pick_f rfl rfl ?_) rfl rfl ?_; focus (with_reducible rfl)) | refine sy_ov (ov_fieldAddr rfl rfl rfl) rfl rfl ?_ | (refine sy_alloc rfl rfl rfl ?_; intro _)) | (refine sy_cond_f rfl ?_ ?_; (first | with_reducible rfl | assumption | omega | (simp <;> first | omega | assumption))))
 refine sy_weaken (fun _ _ h => h) (sd sr) ?_
 repeat ((refine gO ?_; first | (refine gL ?_; first | refine sy_ov (ov_ld 1 rfl rfl rfl) rfl rfl ?_ | refine sy_ov (ov_ld 4 rfl rfl rfl) rfl rfl ?_) | refine sy_ov (ov_fieldAddr rfl rfl rfl) rfl rfl ?_))
 refine sy_ov (ov_call rfl (fun w hw => hany w (hst1.at hw))) rfl rfl ?_
 repeat (first | refine sy_k rfl rfl ?_ | (refine gO ?_; first | refine sy_ov (ov_p rfl) rfl rfl ?_ | (refine gL ?_; first | refine sy_ov (ov_ld 0 rfl rfl rfl) rfl rfl ?_ | refine sy_ov (ov_ld 3 rfl rfl rfl) rfl rfl ?_) | (refine gS ?_; first | refine sy_store 0 rfl rfl rfl rfl rfl rfl rfl rfl ?_ | refine sy_store 1 rfl rfl rfl rfl rfl rfl rfl rfl ?_ | refine sy_store 2 rfl rfl rfl rfl rfl rfl rfl rfl ?_) | refine sy_ov (ov_fieldAddr rfl rfl rfl) rfl rfl ?_ | (refine sy_alloc rfl rfl rfl ?_; intro _)) | (refine sy_cond_t rfl ?_ ?_; (first | with_reducible rfl | assumption | omega | (simp <;> first | omega | assumption))) | (refine sy_cond_f rfl ?_ ?_; (first | with_reducible rfl | assumption | omega | (simp <;> first | omega | assumption))))
 refine sy_ov (ov_call rfl (fun w hw => hmc w ((hst.at hw).on hoa))) rfl rfl ?_
 repeat (first | refine sy_k rfl rfl ?_ | (refine gO ?_; first | refine sy_ov (ov_p rfl) rfl rfl ?_ | (refine gS ?_; refine sy_store 0 rfl rfl rfl rfl rfl rfl rfl rfl ?_) | (refine sy_alloc rfl rfl rfl ?_; intro _)) | (refine sy_cond_f rfl ?_ ?_; (first | with_reducible rfl | assumption | omega | (simp <;> first | omega | assumption))))
 refine sy_weaken (fun _ _ h => h) (sd sr) ?_
 refine sy_drawE _ 3 [(0, false), (1, false), (2, true)] (by kernel_rfl) rfl ((sk (sk (sk (sk (sk (sd sr))))))) ?_
 repeat (first | refine dre_rd (fun _ _ => ov_ld 0 rfl rfl rfl) rfl ?_ | refine dre_rd (fun _ _ => ov_ld 2 rfl rfl rfl) rfl ?_ | (refine dre_ef rfl ?_; refine sy_store 5 rfl rfl rfl rfl rfl rfl rfl rfl ?_; refine dre_ek (by repeat first | exact sr | apply sk | apply sd) ?_) | refine dre_end ?_)
 repeat (first | refine sy_k rfl rfl ?_ | (refine gO ?_; (refine gS ?_; refine sy_store 4 rfl rfl rfl rfl rfl rfl rfl rfl ?_)) | refine sy_rt ?_)
 exact ret_ccw 5 4 rfl rfl rfl rfl rfl rfl rfl rfl rfl fun w' hw' => ⟨_, _, hRV, rfl, (hw'.raw0 1 ta 0 tx).weaken (sk (List.nil_sublist _))⟩
end Go.Proofs.YtldjakeigjngoaaGreat