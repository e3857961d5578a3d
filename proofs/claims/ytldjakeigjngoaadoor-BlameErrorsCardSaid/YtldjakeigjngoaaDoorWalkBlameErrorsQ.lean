/- The walk of blindfoldlaw37.BlameErrors. -/
import Derived.Test.YtldjakeigjngoaaDoorBEB
set_option linter.unusedVariables false
set_option linter.unusedSimpArgs false
namespace Go.Proofs.YtldjakeigjngoaaDoor
open Go.RowKit Bf
instance : KS Tryd.prog 24 [.i .i64, .i .i64] := ⟨by kernel_rfl, by kernel_rfl, by kernel_rfl⟩
theorem eqfE (e a : Int) : eqL [.int .i64 e, .int .i64 a] [.int .i64 e, .int .i64 a] = true := by simp [eqL, eqC]
set_option maxHeartbeats 4000000 in
set_option maxRecDepth 20000 in
set_option maxHeartbeats 8000000 in
theorem blameErrors_walk (st e a st2 e2 a2 : Int) (ha : -9223372036854775808 ≤ a ∧ a ≤ 9223372036854775807) (w : World) (hg : ErrT w) :
 Calls Tryd.prog 3 #[.int .i64 st, .agg ⟨[.int .i64 e, .int .i64 a]⟩, .agg ⟨[.int .i64 st2, .int .i64 e2, .int .i64 a2]⟩] w fun x w' => x = .returned (.bool true) ∧ Below w.heap.size w w' := by
 have sg : St (fun _ => False) w ErrT := St.start ErrT.bl hg
 by_cases h0 : e = 0
 · subst h0
   have h1 := new_nil st a
   have h2 := of_nil
   unfold faultV at h1 h2
   refine sy_enter rfl rfl ?_
   simp only [initFr]
   repeat (first | refine yK ?_ | (refine gO ?_; first | refine yP ?_ | (refine gL ?_; refine yL 1 ?_) | (refine sy_box rfl rfl rfl ?_; intro _)))
   refine sy_ov (ov_call rfl (fun w _ => h1 w)) rfl rfl ?_
   repeat (first | refine yK ?_ | (refine gO ?_; refine yP ?_))
   refine sy_ov (ov_call rfl (fun w _ => h2 w)) rfl rfl ?_
   repeat (first | refine yK ?_ | (refine gO ?_; first | refine yP ?_ | (refine gL ?_; refine yL 2 ?_) | (refine gS ?_; refine yS 0 ?_) | refine yF ?_ | (refine yA ?_; intro _)) | refine yT ?_)
   refine sy_ov (ov_eqNN rfl eq_nn) rfl rfl ?_
   repeat ((refine gO ?_; first | refine yP ?_ | (refine gG ?_; refine yG ?_) | (refine gL ?_; refine yL 0 ?_) | refine yM ?_ | refine yB ?_))
   refine sy_ov (ov_eqst (xs := [.int .i64 0, .int .i64 0]) (ys := [.int .i64 0, .int .i64 0]) rfl rfl rfl rfl) rfl rfl ?_
   rw [eqfE]
   repeat ((refine gO ?_; first | refine yP ?_ | (refine gG ?_; refine yG ?_) | refine yM ?_))
   refine sy_ov (ov_call rfl (fun w _ => say_nil w)) rfl rfl ?_
   repeat ((refine gO ?_; first | refine yP ?_ | (refine gG ?_; refine yG ?_) | (refine gL ?_; refine yL 1 ?_) | refine yM ?_ | refine yF ?_))
   refine sy_ov (ov_call rfl (fun w _ => has_nil st2 e2 w)) rfl rfl ?_
   repeat ((refine gO ?_; first | refine yP ?_ | (refine gG ?_; refine yG ?_) | refine yM ?_))
   refine sy_ov (ov_call rfl (fun w _ => lives37_any w)) rfl rfl ?_
   repeat (first | refine yK ?_ | (refine gO ?_; first | refine yP ?_ | refine yM ?_) | refine sy_rt ?_)
   exact ret1 rfl rfl rfl
 · have hlen : (wrpL [] (erL st e a)).length ≤ 9223372036854775807 := by
    have z1 : (stageB st).data.toList.length ≤ 10 := stageB_size st
    have z2 : (codeB e).data.toList.length ≤ 10 := codeB_size e
    have z3 := putL_len a ha
    have hE : erL st e a = ((((stageB st).data.toList ++ [58, 32]) ++ (codeB e).data.toList) ++ [32, 97, 116, 32]) ++ putL a := by unfold erL errB; rfl
    simp only [wrpL, hE, List.length_append, List.length_cons, List.length_nil]; omega
   by_cases c1 : st2 = 0
   · have hs : sameE st e st2 e2 = decide (e2 = e) := by simp [sameE, c1]
     refine sy_enter rfl rfl ?_
     simp only [initFr]
     repeat (first | refine yK ?_ | (refine gO ?_; first | refine yP ?_ | (refine gL ?_; refine yL 1 ?_) | (refine sy_box rfl rfl rfl ?_; intro _)))
     refine sy_callE [] rfl rfl rfl (newE_c st e a h0) ?_
     rintro _ _ ⟨b, rfl, rfl⟩
     simp only [List.cons_append, List.nil_append]
     have hOf := fun w h1 h2 => of_c b [] st e a w h1 h2
     have hSay := fun w h => say_c b st e a ha [] w hlen h
     have hTx := fun w => rtext_c st e a w ha
     have hHas := fun w h => has_c b [] st e a st2 e2 w h
     have hIs := fun t w h1 h2 h3 => eIs_c b t [] st e a st2 e2 a2 w h1 h2 h3
     rw [hs] at hHas hIs
     simp only [topV, wrpL] at hOf hSay hHas hIs
     unfold faultV at hOf hTx
     unfold ownV at hOf hSay hHas hIs ⊢
     repeat (first | refine yK ?_ | (refine gO ?_; refine yP ?_))
     refine sy_ov (ov_call rfl (fun w hw => hOf w (hpAt hw (i := 0) rfl) (sg.at hw))) rfl rfl ?_
     repeat (first | refine yK ?_ | (refine gO ?_; first | refine yP ?_ | (refine gL ?_; refine yL 3 ?_) | (refine gS ?_; refine yS 0 ?_) | refine yF ?_ | (refine yA ?_; intro _)) | refine yN ?_)
     refine sy_ov (ov_eqN rfl rfl (eq_nilE b)) rfl rfl ?_
     repeat (first | refine yK ?_ | (refine gO ?_; first | refine yP ?_ | (refine gG ?_; first | refine yG ?_ | refine yH ?_) | (refine gL ?_; first | refine yL 3 ?_ | refine yL 4 ?_) | refine yM ?_ | refine sy_ov (ov_pick rfl rfl rfl) rfl rfl ?_ | refine yF ?_ | refine yB ?_ | (refine sy_box rfl rfl rfl ?_; intro _)) | refine yN ?_)
     refine sy_ov (ov_call rfl (fun w _ => error_nil w)) rfl rfl ?_
     repeat ((refine gO ?_; first | refine yP ?_ | (refine gG ?_; refine yG ?_)))
     refine sy_ov (ov_call rfl (fun w _ => isE_no b w)) rfl rfl ?_
     repeat ((refine gO ?_; first | refine yP ?_ | (refine gG ?_; refine yG ?_) | refine yE ?_))
     refine sy_ov (ov_call rfl (fun w _ => isE_nil _ w)) rfl rfl ?_
     repeat ((refine gO ?_; first | refine yP ?_ | (refine gG ?_; refine yG ?_) | refine yE ?_))
     refine sy_callE [] rfl rfl rfl (newS_c [120]) ?_
     rintro _ _ ⟨b5, rfl, rfl⟩
     simp only [List.cons_append, List.nil_append]
     repeat ((refine gO ?_; (refine gG ?_; refine yG ?_)))
     refine sy_ov (ov_call rfl (fun w _ => isE_str _ _ w)) rfl rfl ?_
     repeat (first | refine yK ?_ | (refine gO ?_; refine yE ?_) | refine yN ?_)
     refine sy_draw 50 (by kernel_rfl) ?_
     repeat (first | refine dr_op (ov_p rfl) rfl rfl ?_ | (refine dr_yes rfl rfl rfl rfl ?_ (ov_ld 1 rfl rfl rfl) rfl ?_; (first | with_reducible rfl | assumption | omega | (simp <;> first | omega | assumption))) | (refine dr_yes rfl rfl rfl rfl ?_ (ov_ld 4 rfl rfl rfl) rfl ?_; (first | with_reducible rfl | assumption | omega | (simp <;> first | omega | assumption))))
     refine dr_yes rfl rfl rfl rfl ?_ (ov_eqst (xs := [.int .i64 e, .int .i64 a]) (ys := [.int .i64 e, .int .i64 a]) rfl rfl rfl rfl) rfl ?_
     focus (first | with_reducible rfl | assumption | omega | (simp <;> first | omega | assumption))
     rw [eqfE]
     repeat (first | (refine dr_op (ov_pick_t rfl rfl ?_) rfl rfl ?_; (first | with_reducible rfl | assumption | omega | (simp <;> first | omega | assumption))) | refine dr_op (ov_p rfl) rfl rfl ?_ | (refine dr_yes rfl rfl rfl rfl ?_ (ov_p rfl) rfl ?_; (first | with_reducible rfl | assumption | omega | (simp <;> first | omega | assumption))))
     refine dr_yes rfl rfl rfl rfl ?_ (ov_call rfl (fun w hw => hSay w (hpAt hw (i := 2) rfl))) rfl ?_
     focus (first | with_reducible rfl | assumption | omega | (simp <;> first | omega | assumption))
     repeat (first | (refine dr_yes rfl rfl rfl rfl ?_ (ov_p rfl) rfl ?_; (first | with_reducible rfl | assumption | omega | (simp <;> first | omega | assumption))) | (refine dr_yes rfl rfl rfl rfl ?_ (ov_ld 4 rfl rfl rfl) rfl ?_; (first | with_reducible rfl | assumption | omega | (simp <;> first | omega | assumption))))
     refine dr_yes rfl rfl rfl rfl ?_ (ov_call rfl (fun w hw => hTx w)) rfl ?_
     focus (first | with_reducible rfl | assumption | omega | (simp <;> first | omega | assumption))
     repeat (first | (refine dr_op (ov_pick_t rfl rfl ?_) rfl rfl ?_; (first | with_reducible rfl | assumption | omega | (simp <;> first | omega | assumption))) | refine dr_op (ov_p rfl) rfl rfl ?_ | (refine dr_yes rfl rfl rfl rfl ?_ (ov_p rfl) rfl ?_; (first | with_reducible rfl | assumption | omega | (simp <;> first | omega | assumption))))
     refine dr_yes rfl rfl rfl rfl ?_ (ov_call rfl (fun w hw => errorE_c _ st e a w ha (hpAt hw (i := 0) rfl))) rfl ?_
     focus (first | with_reducible rfl | assumption | omega | (simp <;> first | omega | assumption))
     repeat (first | (refine dr_yes rfl rfl rfl rfl ?_ (ov_p rfl) rfl ?_; (first | with_reducible rfl | assumption | omega | (simp <;> first | omega | assumption))) | (refine dr_yes rfl rfl rfl rfl ?_ (ov_ld 4 rfl rfl rfl) rfl ?_; (first | with_reducible rfl | assumption | omega | (simp <;> first | omega | assumption))))
     refine dr_yes rfl rfl rfl rfl ?_ (ov_call rfl (fun w hw => hTx w)) rfl ?_
     focus (first | with_reducible rfl | assumption | omega | (simp <;> first | omega | assumption))
     repeat (first | (refine dr_op (ov_pick_t rfl rfl ?_) rfl rfl ?_; (first | with_reducible rfl | assumption | omega | (simp <;> first | omega | assumption))) | refine dr_op (ov_p rfl) rfl rfl ?_ | (refine dr_yes rfl rfl rfl rfl ?_ (ov_p rfl) rfl ?_; (first | with_reducible rfl | assumption | omega | (simp <;> first | omega | assumption))) | (refine dr_yes rfl rfl rfl rfl ?_ (ov_ld 3 rfl rfl rfl) rfl ?_; (first | with_reducible rfl | assumption | omega | (simp <;> first | omega | assumption))) | (refine dr_yes rfl rfl rfl rfl ?_ (ov_fieldAddr rfl rfl rfl) rfl ?_; (first | with_reducible rfl | assumption | omega | (simp <;> first | omega | assumption))))
     refine dr_yes rfl rfl rfl rfl ?_ (ov_call rfl (fun w hw => hHas w (hpAt hw (i := 2) rfl))) rfl ?_
     focus (first | with_reducible rfl | assumption | omega | (simp <;> first | omega | assumption))
     repeat (first | (refine dr_op (ov_pick_t rfl rfl ?_) rfl rfl ?_; (first | with_reducible rfl | assumption | omega | (simp <;> first | omega | assumption))) | refine dr_op (ov_p rfl) rfl rfl ?_ | (refine dr_yes rfl rfl rfl rfl ?_ (ov_p rfl) rfl ?_; (first | with_reducible rfl | assumption | omega | (simp <;> first | omega | assumption))) | (refine dr_yes rfl rfl rfl rfl ?_ (ov_eqb rfl rfl) rfl ?_; (first | with_reducible rfl | assumption | omega | (simp <;> first | omega | assumption))))
     refine dr_yes rfl rfl rfl rfl ?_ (ov_mkE rfl) rfl ?_
     focus (first | with_reducible rfl | assumption | omega | (simp <;> first | omega | assumption))
     skip
     refine dr_yes rfl rfl rfl rfl ?_ (ov_call rfl (fun w hw => isE_c _ _ st e a st2 e2 a2 w (hpAt hw (i := 0) rfl) (hpAt hw (i := 3) rfl))) rfl ?_
     focus (first | with_reducible rfl | assumption | omega | (simp <;> first | omega | assumption))
     rw [hs]
     repeat (first | (refine dr_op (ov_pick_t rfl rfl ?_) rfl rfl ?_; (first | with_reducible rfl | assumption | omega | (simp <;> first | omega | assumption))) | refine dr_op (ov_p rfl) rfl rfl ?_ | (refine dr_yes rfl rfl rfl rfl ?_ (ov_p rfl) rfl ?_; (first | with_reducible rfl | assumption | omega | (simp <;> first | omega | assumption))) | (refine dr_yes rfl rfl rfl rfl ?_ (ov_eqb rfl rfl) rfl ?_; (first | with_reducible rfl | assumption | omega | (simp <;> first | omega | assumption))))
     refine dr_yes rfl rfl rfl rfl ?_ (ov_mkE rfl) rfl ?_
     focus (first | with_reducible rfl | assumption | omega | (simp <;> first | omega | assumption))
     skip
     refine dr_yes rfl rfl rfl rfl ?_ (ov_call rfl (fun w hw => hIs _ w (hpAt hw (i := 2) rfl) (hpAt hw (i := 3) rfl) (fun h => hw.apart (i := 2) (j := 3) rfl rfl (by decide) _ rfl h))) rfl ?_
     focus (first | with_reducible rfl | assumption | omega | (simp <;> first | omega | assumption))
     repeat (first | refine dr_end ?_ | (refine dr_yes rfl rfl rfl rfl ?_ (ov_p rfl) rfl ?_; (first | with_reducible rfl | assumption | omega | (simp <;> first | omega | assumption))))
     repeat ((refine gO ?_; first | refine yP ?_ | (refine gG ?_; refine yG ?_) | (refine gB ?_; refine sy_ov (ov_eqb rfl rfl) rfl rfl ?_) | refine yM ?_))
     refine sy_ov (ov_call rfl (fun w _ => lives37_any w)) rfl rfl ?_
     repeat (first | refine yK ?_ | (refine gO ?_; first | refine yP ?_ | refine yM ?_) | refine sy_rt ?_)
     exact ret1 rfl rfl rfl
   · by_cases c2 : st2 = st
     · have hs : sameE st e st2 e2 = decide (e2 = e) := by simp [sameE, c2]
       refine sy_enter rfl rfl ?_
       simp only [initFr]
       repeat (first | refine yK ?_ | (refine gO ?_; first | refine yP ?_ | (refine gL ?_; refine yL 1 ?_) | (refine sy_box rfl rfl rfl ?_; intro _)))
       refine sy_callE [] rfl rfl rfl (newE_c st e a h0) ?_
       rintro _ _ ⟨b, rfl, rfl⟩
       simp only [List.cons_append, List.nil_append]
       have hOf := fun w h1 h2 => of_c b [] st e a w h1 h2
       have hSay := fun w h => say_c b st e a ha [] w hlen h
       have hTx := fun w => rtext_c st e a w ha
       have hHas := fun w h => has_c b [] st e a st2 e2 w h
       have hIs := fun t w h1 h2 h3 => eIs_c b t [] st e a st2 e2 a2 w h1 h2 h3
       rw [hs] at hHas hIs
       simp only [topV, wrpL] at hOf hSay hHas hIs
       unfold faultV at hOf hTx
       unfold ownV at hOf hSay hHas hIs ⊢
       repeat (first | refine yK ?_ | (refine gO ?_; refine yP ?_))
       refine sy_ov (ov_call rfl (fun w hw => hOf w (hpAt hw (i := 0) rfl) (sg.at hw))) rfl rfl ?_
       repeat (first | refine yK ?_ | (refine gO ?_; first | refine yP ?_ | (refine gL ?_; refine yL 3 ?_) | (refine gS ?_; refine yS 0 ?_) | refine yF ?_ | (refine yA ?_; intro _)) | refine yN ?_)
       refine sy_ov (ov_eqN rfl rfl (eq_nilE b)) rfl rfl ?_
       repeat (first | refine yK ?_ | (refine gO ?_; first | refine yP ?_ | (refine gG ?_; refine yG ?_) | (refine gL ?_; first | refine yL 3 ?_ | refine yL 4 ?_) | refine yM ?_ | refine yE ?_ | refine yF ?_ | refine yB ?_ | (refine sy_box rfl rfl rfl ?_; intro _)) | refine yN ?_)
       refine sy_ov (ov_call rfl (fun w _ => error_nil w)) rfl rfl ?_
       repeat ((refine gO ?_; first | refine yP ?_ | (refine gG ?_; refine yG ?_)))
       refine sy_ov (ov_call rfl (fun w _ => isE_no b w)) rfl rfl ?_
       repeat ((refine gO ?_; first | refine yP ?_ | (refine gG ?_; refine yG ?_) | refine yE ?_))
       refine sy_ov (ov_call rfl (fun w _ => isE_nil _ w)) rfl rfl ?_
       repeat ((refine gO ?_; first | refine yP ?_ | (refine gG ?_; refine yG ?_) | refine yE ?_))
       refine sy_callE [] rfl rfl rfl (newS_c [120]) ?_
       rintro _ _ ⟨b5, rfl, rfl⟩
       simp only [List.cons_append, List.nil_append]
       repeat ((refine gO ?_; (refine gG ?_; refine yG ?_)))
       refine sy_ov (ov_call rfl (fun w _ => isE_str _ _ w)) rfl rfl ?_
       repeat (first | refine yK ?_ | (refine gO ?_; refine yE ?_) | refine yN ?_)
       refine sy_draw 50 (by kernel_rfl) ?_
       repeat (first | refine dr_op (ov_p rfl) rfl rfl ?_ | (refine dr_yes rfl rfl rfl rfl ?_ (ov_ld 1 rfl rfl rfl) rfl ?_; (first | with_reducible rfl | assumption | omega | (simp <;> first | omega | assumption))) | (refine dr_yes rfl rfl rfl rfl ?_ (ov_ld 4 rfl rfl rfl) rfl ?_; (first | with_reducible rfl | assumption | omega | (simp <;> first | omega | assumption))))
       refine dr_yes rfl rfl rfl rfl ?_ (ov_eqst (xs := [.int .i64 e, .int .i64 a]) (ys := [.int .i64 e, .int .i64 a]) rfl rfl rfl rfl) rfl ?_
       focus (first | with_reducible rfl | assumption | omega | (simp <;> first | omega | assumption))
       rw [eqfE]
       repeat (first | (refine dr_op (ov_pick_t rfl rfl ?_) rfl rfl ?_; (first | with_reducible rfl | assumption | omega | (simp <;> first | omega | assumption))) | refine dr_op (ov_p rfl) rfl rfl ?_ | (refine dr_yes rfl rfl rfl rfl ?_ (ov_p rfl) rfl ?_; (first | with_reducible rfl | assumption | omega | (simp <;> first | omega | assumption))))
       refine dr_yes rfl rfl rfl rfl ?_ (ov_call rfl (fun w hw => hSay w (hpAt hw (i := 2) rfl))) rfl ?_
       focus (first | with_reducible rfl | assumption | omega | (simp <;> first | omega | assumption))
       repeat (first | (refine dr_yes rfl rfl rfl rfl ?_ (ov_p rfl) rfl ?_; (first | with_reducible rfl | assumption | omega | (simp <;> first | omega | assumption))) | (refine dr_yes rfl rfl rfl rfl ?_ (ov_ld 4 rfl rfl rfl) rfl ?_; (first | with_reducible rfl | assumption | omega | (simp <;> first | omega | assumption))))
       refine dr_yes rfl rfl rfl rfl ?_ (ov_call rfl (fun w hw => hTx w)) rfl ?_
       focus (first | with_reducible rfl | assumption | omega | (simp <;> first | omega | assumption))
       repeat (first | (refine dr_op (ov_pick_t rfl rfl ?_) rfl rfl ?_; (first | with_reducible rfl | assumption | omega | (simp <;> first | omega | assumption))) | refine dr_op (ov_p rfl) rfl rfl ?_ | (refine dr_yes rfl rfl rfl rfl ?_ (ov_p rfl) rfl ?_; (first | with_reducible rfl | assumption | omega | (simp <;> first | omega | assumption))))
       refine dr_yes rfl rfl rfl rfl ?_ (ov_call rfl (fun w hw => errorE_c _ st e a w ha (hpAt hw (i := 0) rfl))) rfl ?_
       focus (first | with_reducible rfl | assumption | omega | (simp <;> first | omega | assumption))
       repeat (first | (refine dr_yes rfl rfl rfl rfl ?_ (ov_p rfl) rfl ?_; (first | with_reducible rfl | assumption | omega | (simp <;> first | omega | assumption))) | (refine dr_yes rfl rfl rfl rfl ?_ (ov_ld 4 rfl rfl rfl) rfl ?_; (first | with_reducible rfl | assumption | omega | (simp <;> first | omega | assumption))))
       refine dr_yes rfl rfl rfl rfl ?_ (ov_call rfl (fun w hw => hTx w)) rfl ?_
       focus (first | with_reducible rfl | assumption | omega | (simp <;> first | omega | assumption))
       repeat (first | (refine dr_op (ov_pick_t rfl rfl ?_) rfl rfl ?_; (first | with_reducible rfl | assumption | omega | (simp <;> first | omega | assumption))) | refine dr_op (ov_p rfl) rfl rfl ?_ | (refine dr_yes rfl rfl rfl rfl ?_ (ov_p rfl) rfl ?_; (first | with_reducible rfl | assumption | omega | (simp <;> first | omega | assumption))) | (refine dr_yes rfl rfl rfl rfl ?_ (ov_ld 3 rfl rfl rfl) rfl ?_; (first | with_reducible rfl | assumption | omega | (simp <;> first | omega | assumption))) | (refine dr_yes rfl rfl rfl rfl ?_ (ov_fieldAddr rfl rfl rfl) rfl ?_; (first | with_reducible rfl | assumption | omega | (simp <;> first | omega | assumption))))
       refine dr_yes rfl rfl rfl rfl ?_ (ov_call rfl (fun w hw => hHas w (hpAt hw (i := 2) rfl))) rfl ?_
       focus (first | with_reducible rfl | assumption | omega | (simp <;> first | omega | assumption))
       repeat (first | (refine dr_op (ov_pick_t rfl rfl ?_) rfl rfl ?_; (first | with_reducible rfl | assumption | omega | (simp <;> first | omega | assumption))) | refine dr_op (ov_p rfl) rfl rfl ?_ | (refine dr_yes rfl rfl rfl rfl ?_ (ov_p rfl) rfl ?_; (first | with_reducible rfl | assumption | omega | (simp <;> first | omega | assumption))) | (refine dr_yes rfl rfl rfl rfl ?_ (ov_eqb rfl rfl) rfl ?_; (first | with_reducible rfl | assumption | omega | (simp <;> first | omega | assumption))))
       refine dr_yes rfl rfl rfl rfl ?_ (ov_mkE rfl) rfl ?_
       focus (first | with_reducible rfl | assumption | omega | (simp <;> first | omega | assumption))
       skip
       refine dr_yes rfl rfl rfl rfl ?_ (ov_call rfl (fun w hw => isE_c _ _ st e a st2 e2 a2 w (hpAt hw (i := 0) rfl) (hpAt hw (i := 3) rfl))) rfl ?_
       focus (first | with_reducible rfl | assumption | omega | (simp <;> first | omega | assumption))
       rw [hs]
       repeat (first | (refine dr_op (ov_pick_t rfl rfl ?_) rfl rfl ?_; (first | with_reducible rfl | assumption | omega | (simp <;> first | omega | assumption))) | refine dr_op (ov_p rfl) rfl rfl ?_ | (refine dr_yes rfl rfl rfl rfl ?_ (ov_p rfl) rfl ?_; (first | with_reducible rfl | assumption | omega | (simp <;> first | omega | assumption))) | (refine dr_yes rfl rfl rfl rfl ?_ (ov_eqb rfl rfl) rfl ?_; (first | with_reducible rfl | assumption | omega | (simp <;> first | omega | assumption))))
       refine dr_yes rfl rfl rfl rfl ?_ (ov_mkE rfl) rfl ?_
       focus (first | with_reducible rfl | assumption | omega | (simp <;> first | omega | assumption))
       skip
       refine dr_yes rfl rfl rfl rfl ?_ (ov_call rfl (fun w hw => hIs _ w (hpAt hw (i := 2) rfl) (hpAt hw (i := 3) rfl) (fun h => hw.apart (i := 2) (j := 3) rfl rfl (by decide) _ rfl h))) rfl ?_
       focus (first | with_reducible rfl | assumption | omega | (simp <;> first | omega | assumption))
       repeat (first | refine dr_end ?_ | (refine dr_yes rfl rfl rfl rfl ?_ (ov_p rfl) rfl ?_; (first | with_reducible rfl | assumption | omega | (simp <;> first | omega | assumption))))
       repeat ((refine gO ?_; first | refine yP ?_ | (refine gG ?_; refine yG ?_) | (refine gB ?_; refine sy_ov (ov_eqb rfl rfl) rfl rfl ?_) | refine yM ?_))
       refine sy_ov (ov_call rfl (fun w _ => lives37_any w)) rfl rfl ?_
       repeat (first | refine yK ?_ | (refine gO ?_; first | refine yP ?_ | refine yM ?_) | refine sy_rt ?_)
       exact ret1 rfl rfl rfl
     · have hs : sameE st e st2 e2 = false := by simp [sameE, c1, c2]
       refine sy_enter rfl rfl ?_
       simp only [initFr]
       repeat (first | refine yK ?_ | (refine gO ?_; first | refine yP ?_ | (refine gL ?_; refine yL 1 ?_) | (refine sy_box rfl rfl rfl ?_; intro _)))
       refine sy_callE [] rfl rfl rfl (newE_c st e a h0) ?_
       rintro _ _ ⟨b, rfl, rfl⟩
       simp only [List.cons_append, List.nil_append]
       have hOf := fun w h1 h2 => of_c b [] st e a w h1 h2
       have hSay := fun w h => say_c b st e a ha [] w hlen h
       have hTx := fun w => rtext_c st e a w ha
       have hHas := fun w h => has_c b [] st e a st2 e2 w h
       have hIs := fun t w h1 h2 h3 => eIs_c b t [] st e a st2 e2 a2 w h1 h2 h3
       rw [hs] at hHas hIs
       simp only [topV, wrpL] at hOf hSay hHas hIs
       unfold faultV at hOf hTx
       unfold ownV at hOf hSay hHas hIs ⊢
       repeat (first | refine yK ?_ | (refine gO ?_; refine yP ?_))
       refine sy_ov (ov_call rfl (fun w hw => hOf w (hpAt hw (i := 0) rfl) (sg.at hw))) rfl rfl ?_
       repeat (first | refine yK ?_ | (refine gO ?_; first | refine yP ?_ | (refine gL ?_; refine yL 3 ?_) | (refine gS ?_; refine yS 0 ?_) | refine yF ?_ | (refine yA ?_; intro _)) | refine yN ?_)
       refine sy_ov (ov_eqN rfl rfl (eq_nilE b)) rfl rfl ?_
       repeat (first | refine yK ?_ | (refine gO ?_; first | refine yP ?_ | (refine gG ?_; first | refine yG ?_ | refine yH ?_) | (refine gL ?_; refine yL 3 ?_) | refine yE ?_ | refine sy_ov (ov_pick rfl rfl rfl) rfl rfl ?_ | refine yF ?_ | refine yB ?_ | (refine sy_box rfl rfl rfl ?_; intro _)) | refine yN ?_)
       refine sy_ov (ov_call rfl (fun w _ => error_nil w)) rfl rfl ?_
       repeat ((refine gO ?_; first | refine yP ?_ | (refine gG ?_; refine yG ?_)))
       refine sy_ov (ov_call rfl (fun w _ => isE_no b w)) rfl rfl ?_
       repeat ((refine gO ?_; first | refine yP ?_ | (refine gG ?_; refine yG ?_) | refine yE ?_))
       refine sy_ov (ov_call rfl (fun w _ => isE_nil _ w)) rfl rfl ?_
       repeat ((refine gO ?_; first | refine yP ?_ | (refine gG ?_; refine yG ?_) | refine yE ?_))
       refine sy_callE [] rfl rfl rfl (newS_c [120]) ?_
       rintro _ _ ⟨b5, rfl, rfl⟩
       simp only [List.cons_append, List.nil_append]
       repeat ((refine gO ?_; (refine gG ?_; refine yG ?_)))
       refine sy_ov (ov_call rfl (fun w _ => isE_str _ _ w)) rfl rfl ?_
       repeat (first | refine yK ?_ | (refine gO ?_; refine yE ?_) | refine yN ?_)
       refine sy_draw 50 (by kernel_rfl) ?_
       repeat (first | refine dr_op (ov_p rfl) rfl rfl ?_ | (refine dr_yes rfl rfl rfl rfl ?_ (ov_ld 1 rfl rfl rfl) rfl ?_; (first | with_reducible rfl | assumption | omega | (simp <;> first | omega | assumption))) | (refine dr_yes rfl rfl rfl rfl ?_ (ov_ld 4 rfl rfl rfl) rfl ?_; (first | with_reducible rfl | assumption | omega | (simp <;> first | omega | assumption))))
       refine dr_yes rfl rfl rfl rfl ?_ (ov_eqst (xs := [.int .i64 e, .int .i64 a]) (ys := [.int .i64 e, .int .i64 a]) rfl rfl rfl rfl) rfl ?_
       focus (first | with_reducible rfl | assumption | omega | (simp <;> first | omega | assumption))
       rw [eqfE]
       repeat (first | (refine dr_op (ov_pick_t rfl rfl ?_) rfl rfl ?_; (first | with_reducible rfl | assumption | omega | (simp <;> first | omega | assumption))) | refine dr_op (ov_p rfl) rfl rfl ?_ | (refine dr_yes rfl rfl rfl rfl ?_ (ov_p rfl) rfl ?_; (first | with_reducible rfl | assumption | omega | (simp <;> first | omega | assumption))))
       refine dr_yes rfl rfl rfl rfl ?_ (ov_call rfl (fun w hw => hSay w (hpAt hw (i := 2) rfl))) rfl ?_
       focus (first | with_reducible rfl | assumption | omega | (simp <;> first | omega | assumption))
       repeat (first | (refine dr_yes rfl rfl rfl rfl ?_ (ov_p rfl) rfl ?_; (first | with_reducible rfl | assumption | omega | (simp <;> first | omega | assumption))) | (refine dr_yes rfl rfl rfl rfl ?_ (ov_ld 4 rfl rfl rfl) rfl ?_; (first | with_reducible rfl | assumption | omega | (simp <;> first | omega | assumption))))
       refine dr_yes rfl rfl rfl rfl ?_ (ov_call rfl (fun w hw => hTx w)) rfl ?_
       focus (first | with_reducible rfl | assumption | omega | (simp <;> first | omega | assumption))
       repeat (first | (refine dr_op (ov_pick_t rfl rfl ?_) rfl rfl ?_; (first | with_reducible rfl | assumption | omega | (simp <;> first | omega | assumption))) | refine dr_op (ov_p rfl) rfl rfl ?_ | (refine dr_yes rfl rfl rfl rfl ?_ (ov_p rfl) rfl ?_; (first | with_reducible rfl | assumption | omega | (simp <;> first | omega | assumption))))
       refine dr_yes rfl rfl rfl rfl ?_ (ov_call rfl (fun w hw => errorE_c _ st e a w ha (hpAt hw (i := 0) rfl))) rfl ?_
       focus (first | with_reducible rfl | assumption | omega | (simp <;> first | omega | assumption))
       repeat (first | (refine dr_yes rfl rfl rfl rfl ?_ (ov_p rfl) rfl ?_; (first | with_reducible rfl | assumption | omega | (simp <;> first | omega | assumption))) | (refine dr_yes rfl rfl rfl rfl ?_ (ov_ld 4 rfl rfl rfl) rfl ?_; (first | with_reducible rfl | assumption | omega | (simp <;> first | omega | assumption))))
       refine dr_yes rfl rfl rfl rfl ?_ (ov_call rfl (fun w hw => hTx w)) rfl ?_
       focus (first | with_reducible rfl | assumption | omega | (simp <;> first | omega | assumption))
       repeat (first | (refine dr_op (ov_pick_t rfl rfl ?_) rfl rfl ?_; (first | with_reducible rfl | assumption | omega | (simp <;> first | omega | assumption))) | refine dr_op (ov_p rfl) rfl rfl ?_ | (refine dr_yes rfl rfl rfl rfl ?_ (ov_p rfl) rfl ?_; (first | with_reducible rfl | assumption | omega | (simp <;> first | omega | assumption))) | (refine dr_yes rfl rfl rfl rfl ?_ (ov_ld 3 rfl rfl rfl) rfl ?_; (first | with_reducible rfl | assumption | omega | (simp <;> first | omega | assumption))) | (refine dr_yes rfl rfl rfl rfl ?_ (ov_fieldAddr rfl rfl rfl) rfl ?_; (first | with_reducible rfl | assumption | omega | (simp <;> first | omega | assumption))))
       refine dr_yes rfl rfl rfl rfl ?_ (ov_call rfl (fun w hw => hHas w (hpAt hw (i := 2) rfl))) rfl ?_
       focus (first | with_reducible rfl | assumption | omega | (simp <;> first | omega | assumption))
       repeat (first | (refine dr_op (ov_pick_t rfl rfl ?_) rfl rfl ?_; (first | with_reducible rfl | assumption | omega | (simp <;> first | omega | assumption))) | refine dr_op (ov_p rfl) rfl rfl ?_ | (refine dr_yes rfl rfl rfl rfl ?_ (ov_p rfl) rfl ?_; (first | with_reducible rfl | assumption | omega | (simp <;> first | omega | assumption))) | (refine dr_yes rfl rfl rfl rfl ?_ (ov_eqb rfl rfl) rfl ?_; (first | with_reducible rfl | assumption | omega | (simp <;> first | omega | assumption))))
       refine dr_yes rfl rfl rfl rfl ?_ (ov_mkE rfl) rfl ?_
       focus (first | with_reducible rfl | assumption | omega | (simp <;> first | omega | assumption))
       skip
       refine dr_yes rfl rfl rfl rfl ?_ (ov_call rfl (fun w hw => isE_c _ _ st e a st2 e2 a2 w (hpAt hw (i := 0) rfl) (hpAt hw (i := 3) rfl))) rfl ?_
       focus (first | with_reducible rfl | assumption | omega | (simp <;> first | omega | assumption))
       rw [hs]
       repeat (first | (refine dr_op (ov_pick_t rfl rfl ?_) rfl rfl ?_; (first | with_reducible rfl | assumption | omega | (simp <;> first | omega | assumption))) | refine dr_op (ov_p rfl) rfl rfl ?_ | (refine dr_yes rfl rfl rfl rfl ?_ (ov_p rfl) rfl ?_; (first | with_reducible rfl | assumption | omega | (simp <;> first | omega | assumption))) | (refine dr_yes rfl rfl rfl rfl ?_ (ov_eqb rfl rfl) rfl ?_; (first | with_reducible rfl | assumption | omega | (simp <;> first | omega | assumption))))
       refine dr_yes rfl rfl rfl rfl ?_ (ov_mkE rfl) rfl ?_
       focus (first | with_reducible rfl | assumption | omega | (simp <;> first | omega | assumption))
       skip
       refine dr_yes rfl rfl rfl rfl ?_ (ov_call rfl (fun w hw => hIs _ w (hpAt hw (i := 2) rfl) (hpAt hw (i := 3) rfl) (fun h => hw.apart (i := 2) (j := 3) rfl rfl (by decide) _ rfl h))) rfl ?_
       focus (first | with_reducible rfl | assumption | omega | (simp <;> first | omega | assumption))
       repeat (first | refine dr_end ?_ | (refine dr_yes rfl rfl rfl rfl ?_ (ov_p rfl) rfl ?_; (first | with_reducible rfl | assumption | omega | (simp <;> first | omega | assumption))))
       repeat ((refine gO ?_; first | refine yP ?_ | (refine gG ?_; refine yG ?_) | (refine gB ?_; refine sy_ov (ov_eqb rfl rfl) rfl rfl ?_) | refine yM ?_))
       refine sy_ov (ov_call rfl (fun w _ => lives37_any w)) rfl rfl ?_
       repeat (first | refine yK ?_ | (refine gO ?_; first | refine yP ?_ | refine yM ?_) | refine sy_rt ?_)
       exact ret1 rfl rfl rfl
end Go.Proofs.YtldjakeigjngoaaDoor