/- The walk of blindfoldlaw29.DocFlat. -/
import Derived.Test.YtldjakeigjngoaaBDO
set_option linter.unusedVariables false
set_option linter.unusedSimpArgs false
namespace Go.Proofs.Ytldjakeigjngoaa
open Go.RowKit Bf
set_option maxRecDepth 20000 in
set_option maxHeartbeats 8000000 in
theorem docFlat_walk (w : World) (za zb : DocA) (ha : DocJ w za) (hb : DocJ w zb) (hB : blkD (plD za) + blkD (plD zb) ≤ 1048576) : Calls Try.prog 6 #[.agg ⟨docV za⟩, .agg ⟨docV zb⟩] w fun e w' => e = .returned (.bool true) ∧ Below w.heap.size w w' := by
  have hJa : St (fun _ => False) w (fun w => DocJ w za) := St.start (DocJ.bl za) ha
  have hJb : St (fun _ => False) w (fun w => DocJ w zb) := St.start (DocJ.bl zb) hb
  obtain ⟨ba, hba⟩ : ∃ b, (rightD (plD za) && !forceD (plD za)) = b := ⟨_, rfl⟩
  obtain ⟨bb, hbb⟩ : ∃ b, (rightD (plD zb) && !forceD (plD zb)) = b := ⟨_, rfl⟩
  obtain ⟨xa, hxa⟩ : ∃ o, (if ba = true then flatD (plD za) else []) = o := ⟨_, rfl⟩
  obtain ⟨xb, hxb⟩ : ∃ o, (if bb = true then flatD (plD zb) else []) = o := ⟨_, rfl⟩
  obtain ⟨na, hna⟩ : ∃ o, (if ba = true then colD (plD za) else 0) = o := ⟨_, rfl⟩
  obtain ⟨nb, hnb⟩ : ∃ o, (if bb = true then colD (plD zb) else 0) = o := ⟨_, rfl⟩
  obtain ⟨ga, hga⟩ : ∃ o, grpD (plD za) = o := ⟨_, rfl⟩
  obtain ⟨gb, hgb⟩ : ∃ o, grpD (plD zb) = o := ⟨_, rfl⟩
  have cfa := fun w h => flat29_c za (by omega) xa ba hba hxa w h
  have cfb := fun w h => flat29_c zb (by omega) xb bb hbb hxb w h
  have cwa := fun w h => width29_c za (by omega) na ba hba hna w h
  have cwb := fun w h => width29_c zb (by omega) nb bb hbb hnb w h
  have cga := fun w h => groups29_c _ za (Nat.le_refl _) (by omega) w h
  have cgb := fun w h => groups29_c _ zb (Nat.le_refl _) (by omega) w h
  rw [hga] at cga
  rw [hgb] at cgb
  have hg0 := grpD_bd (plD za)
  have hg1 := grpD_bd (plD zb)
  have hc0 := colD_bd (plD za)
  have hc1 := colD_bd (plD zb)
  rw [hga] at hg0
  rw [hgb] at hg1
  have htwo := flat_two 5 (.inl rfl) (plD za) (plD zb)
  have hand : ((rightD (plD za) && rightD (plD zb)) && !(forceD (plD za) || forceD (plD zb))) = (ba && bb) := by
    rw [← hba, ← hbb]; cases rightD (plD za) <;> cases rightD (plD zb) <;> cases forceD (plD za) <;> cases forceD (plD zb) <;> rfl
  obtain ⟨xs, hxs⟩ : ∃ o, (if (ba && bb) = true then flatD (plD za) ++ flatD (plD zb) else []) = o := ⟨_, rfl⟩
  -- a cat of both
  have cfs := fun p q w h => flat29_c (.mk 5 0 [] p q [za, zb]) (by simp only [plD, plDs, blkD, blkDs]; simp only [List.length_nil]; omega) xs (ba && bb) (by simp only [plD, plDs]; rw [htwo.1, htwo.2.1]; exact hand) (by simp only [plD, plDs]; rw [htwo.2.2]; exact hxs) w h
  have kid2 : ∀ x ∈ [za, zb], St (fun _ => False) w (fun w => DocJ w x) := all2 hJa hJb
  have hnest := grp_nest (plD za) (plD zb) 0 0 []
  have cfg := fun p q p3 q3 w h => flat29_c (.mk 7 0 [] p q [.mk 6 3 [] p3 q3 [za], .mk 3 0 [] none 0 [], zb]) (by simp only [plD, plDs, blkD, blkDs]; simp only [List.length_nil]; omega) xs (ba && bb) (by simp only [plD, plDs]; rw [hnest.1, hnest.2.1]; exact hand) (by simp only [plD, plDs]; rw [hnest.2.2]; exact hxs) w h
  have hthree := flat_three 5 2 (.inl rfl) (.inl rfl) (plD za) (plD zb)
  have hcol := col_three (plD za) (plD zb)
  have hgrp := grp_two (plD za) (plD zb)
  have cww := fun (hb : (ba && bb) = true) p q w h => width29_c (.mk 5 0 [] p q [za, .mk 2 0 [] none 0 [], zb]) (by simp only [plD, plDs, blkD, blkDs]; simp only [List.length_nil]; omega) (colD (plD za) + colD (plD zb) + 1) true (by simp only [plD, plDs]; rw [hthree.1, hthree.2.1, hand, hb]) (by rw [if_pos rfl]; simp only [plD, plDs]; rw [hcol]) w h
  have cgg := fun p q w h => groups29_c _ (.mk 7 0 [] p q [za, zb]) (Nat.le_refl _) (by simp only [plD, plDs, blkD, blkDs]; simp only [List.length_nil]; omega) w h
  simp only [plD, plDs, hgrp, hga, hgb] at cgg
  obtain ⟨k, n, s, p, c, kids⟩ := za
  obtain ⟨k2, n2, s2, p2, c2, kids2⟩ := zb
  refine sy_enter rfl rfl ?_
  simp only [initFr]
  repeat (first | refine sy_k rfl rfl ?_ | (refine gO ?_; first | refine sy_ov (ov_p rfl) rfl rfl ?_ | (refine gL ?_; refine sy_ov (ov_ld 1 rfl rfl rfl) rfl rfl ?_) | (refine sy_box rfl rfl rfl ?_; intro _)))
  refine sy_callN rfl rfl (fun w hw => great29_c (.mk k n s p c kids) w (hJa.at hw)) ?_
  rintro u es' ⟨g1, rfl, rfl⟩
  simp only [List.cons_append, List.nil_append]
  cases g1
  · repeat ((refine gO ?_; first | refine sy_ov (ov_p rfl) rfl rfl ?_ | (refine gG ?_; (refine sy_guard_yes rfl rfl rfl rfl rfl ?_ ?_; focus (first | with_reducible rfl | assumption | omega | (simp <;> first | omega | assumption)))) | (refine gL ?_; refine sy_ov (ov_ld 0 rfl rfl rfl) rfl rfl ?_)))
    refine sy_callN rfl rfl (fun w hw => great29_c (.mk k2 n2 s2 p2 c2 kids2) w (hJb.at hw)) ?_
    rintro u es' ⟨g2, rfl, rfl⟩
    simp only [List.cons_append, List.nil_append]
    cases g2
    · repeat (first | refine sy_k rfl rfl ?_ | (refine gO ?_; first | (refine gL ?_; refine sy_ov (ov_ld 1 rfl rfl rfl) rfl rfl ?_) | (refine sy_ov (ov_pick_f rfl rfl ?_) rfl rfl ?_; focus (with_reducible rfl))) | (refine sy_cond_f rfl ?_ ?_; focus (first | with_reducible rfl | assumption | omega | (simp <;> first | omega | assumption))))
      refine sy_ov (ov_call rfl (fun w hw => cfa w (hJa.at hw))) rfl rfl ?_
      repeat (first | refine sy_k rfl rfl ?_ | (refine gO ?_; first | refine sy_ov (ov_p rfl) rfl rfl ?_ | (refine gL ?_; refine sy_ov (ov_ld 0 rfl rfl rfl) rfl rfl ?_)))
      refine sy_ov (ov_call rfl (fun w hw => cfb w (hJb.at hw))) rfl rfl ?_
      repeat (first | refine sy_k rfl rfl ?_ | (refine gO ?_; first | refine sy_ov (ov_p rfl) rfl rfl ?_ | (refine gL ?_; first | refine sy_ov (ov_ld 0 rfl rfl rfl) rfl rfl ?_ | refine sy_ov (ov_ld 1 rfl rfl rfl) rfl rfl ?_)))
      refine sy_buildSlice rfl rfl rfl rfl rfl rfl rfl rfl ?_
      intro m1
      refine sy_callN rfl rfl (fun w hw => cat29_c [.mk k n s p c kids, .mk k2 n2 s2 p2 c2 kids2] (some ⟨m1, 0, none⟩) 2 (by simp) w (docJ_blk hw (i := 0) (m := 2) (l := [.mk k n s p c kids, .mk k2 n2 s2 p2 c2 kids2]) rfl rfl rfl rfl 0 0 [] (by simp) (fun x hx => (kid2 x hx).at hw))) ?_
      rintro u es' ⟨p1, q1, rfl, rfl⟩
      simp only [List.cons_append, List.nil_append]
      refine sy_ov (ov_call rfl (fun w hw => cfs p1 q1 w (docJ_vec hw (i := 0) rfl 5 0 [] (by simp) (fun x hx => (kid2 x hx).at hw)))) rfl rfl ?_
      repeat (first | refine sy_k rfl rfl ?_ | (refine gO ?_; refine sy_ov (ov_p rfl) rfl rfl ?_))
      refine sy_weaken (fun _ _ h => h) (sd (sd sr)) ?_
      refine sy_drawE _ 12 [(0, false), (4, false), (1, true), (2, true), (3, true), (5, true), (6, true), (7, true), (8, false), (9, false), (10, false), (11, false)] (by kernel_rfl) rfl (sr) ?_
      repeat (first | refine dre_rd (fun _ _ => ov_ld 0 rfl rfl rfl) rfl ?_ | refine dre_rd (fun _ _ => ov_ld 1 rfl rfl rfl) rfl ?_)
      refine dre_ef rfl ?_
      refine sy_buildSlice rfl rfl rfl rfl rfl rfl rfl rfl ?_
      intro m2
      refine dre_ek (sd sr) ?_
      refine dre_ef rfl ?_
      refine sy_callN rfl rfl (fun w hw => nest29_c 3 [.mk k n s p c kids] (some ⟨m2, 0, none⟩) 1 (by simp) w (docJ_blk hw (i := 0) (m := 1) (l := [.mk k n s p c kids]) rfl rfl rfl rfl 0 0 [] (by simp) (all1 (hJa.at hw)))) ?_
      rintro u es' ⟨p3, q3, rfl, rfl⟩
      simp only [List.cons_append, List.nil_append]
      refine dre_ek (sd (sd sr)) ?_
      refine dre_ef rfl ?_
      refine sy_ov (ov_call rfl (fun w _ => soft29_c w)) rfl rfl ?_
      refine dre_ek (sd (sd sr)) ?_
      refine dre_ef rfl ?_
      refine sy_buildSlice rfl rfl rfl rfl rfl rfl rfl rfl ?_
      intro m3
      refine dre_ek (sd (sd (sd sr))) ?_
      refine dre_ef rfl ?_
      refine sy_callN rfl rfl (fun w hw => group29_c [.mk 6 3 [] p3 q3 [.mk k n s p c kids], .mk 3 0 [] none 0 [], .mk k2 n2 s2 p2 c2 kids2] (some ⟨m3, 0, none⟩) 3 (by simp) w (docJ_blk hw (i := 0) (m := 3) (l := [.mk 6 3 [] p3 q3 [.mk k n s p c kids], .mk 3 0 [] none 0 [], .mk k2 n2 s2 p2 c2 kids2]) rfl rfl rfl rfl 0 0 [] (by simp) (all3 (docJ_vec hw (i := 1) rfl 6 3 [] (by simp) (all1 (hJa.at hw))) (docJ0 _ _ _ _) (hJb.at hw)))) ?_
      rintro u es' ⟨p4, q4, rfl, rfl⟩
      simp only [List.cons_append, List.nil_append]
      refine dre_ek (sd (sd (sd (sd sr)))) ?_
      refine dre_ef rfl ?_
      refine sy_ov (ov_call rfl (fun w hw => cfg p4 q4 p3 q3 w (docJ_vec hw (i := 0) rfl 7 0 [] (by simp) (all3 (docJ_vec hw (i := 2) rfl 6 3 [] (by simp) (all1 (hJa.at hw))) (docJ0 _ _ _ _) (hJb.at hw))))) rfl rfl ?_
      refine dre_ek (sd (sd (sd (sd sr)))) ?_
      repeat (first | refine dre_rd (fun _ _ => ov_p rfl) rfl ?_ | refine dre_end ?_)
      simp only [List.drop_succ_cons, List.drop_zero]
      cases ba <;> cases bb
      · have hx0 : xs = [] := by rw [← hxs]; rfl
        subst hx0
        repeat (first | refine sy_k rfl rfl ?_ | (refine gO ?_; first | refine sy_ov (ov_p rfl) rfl rfl ?_ | (refine gG ?_; first | (refine sy_guard_yes rfl rfl rfl rfl rfl ?_ ?_; focus (first | with_reducible rfl | assumption | omega | (simp <;> first | omega | assumption))) | (refine sy_guard_no rfl rfl rfl rfl rfl ?_ ?_; focus (first | with_reducible rfl | assumption | omega | (simp <;> first | omega | assumption)))) | (refine gB ?_; refine sy_ov (ov_neb rfl rfl) rfl rfl ?_) | (refine sy_ov (ov_pick_t rfl rfl ?_) rfl rfl ?_; focus (with_reducible rfl)) | (refine sy_ov (ov_pick_f rfl rfl ?_) rfl rfl ?_; focus (with_reducible rfl)) | refine sy_ov (ov_pick rfl rfl rfl) rfl rfl ?_) | (refine sy_cond_t rfl ?_ ?_; focus (first | with_reducible rfl | assumption | omega | (simp <;> first | omega | assumption))) | (refine sy_cond_f rfl ?_ ?_; focus (first | with_reducible rfl | assumption | omega | (simp <;> first | omega | assumption))))
        refine sy_ov (ov_call rfl (fun w _ => lives29_c w)) rfl rfl ?_
        repeat (first | refine sy_k rfl rfl ?_ | (refine gO ?_; first | refine sy_ov (ov_p rfl) rfl rfl ?_ | (refine sy_ov (ov_pick_t rfl rfl ?_) rfl rfl ?_; focus (with_reducible rfl))) | refine sy_rt ?_)
        exact ret1 rfl rfl rfl
      · have hx0 : xs = [] := by rw [← hxs]; rfl
        subst hx0
        repeat (first | refine sy_k rfl rfl ?_ | (refine gO ?_; first | refine sy_ov (ov_p rfl) rfl rfl ?_ | (refine gG ?_; first | (refine sy_guard_yes rfl rfl rfl rfl rfl ?_ ?_; focus (first | with_reducible rfl | assumption | omega | (simp <;> first | omega | assumption))) | (refine sy_guard_no rfl rfl rfl rfl rfl ?_ ?_; focus (first | with_reducible rfl | assumption | omega | (simp <;> first | omega | assumption)))) | (refine gB ?_; refine sy_ov (ov_neb rfl rfl) rfl rfl ?_) | (refine sy_ov (ov_pick_t rfl rfl ?_) rfl rfl ?_; focus (with_reducible rfl)) | (refine sy_ov (ov_pick_f rfl rfl ?_) rfl rfl ?_; focus (with_reducible rfl)) | refine sy_ov (ov_pick rfl rfl rfl) rfl rfl ?_) | (refine sy_cond_t rfl ?_ ?_; focus (first | with_reducible rfl | assumption | omega | (simp <;> first | omega | assumption))) | (refine sy_cond_f rfl ?_ ?_; focus (first | with_reducible rfl | assumption | omega | (simp <;> first | omega | assumption))))
        refine sy_ov (ov_call rfl (fun w _ => lives29_c w)) rfl rfl ?_
        repeat (first | refine sy_k rfl rfl ?_ | (refine gO ?_; first | refine sy_ov (ov_p rfl) rfl rfl ?_ | (refine sy_ov (ov_pick_t rfl rfl ?_) rfl rfl ?_; focus (with_reducible rfl))) | refine sy_rt ?_)
        exact ret1 rfl rfl rfl
      · have hx0 : xs = [] := by rw [← hxs]; rfl
        subst hx0
        repeat (first | refine sy_k rfl rfl ?_ | (refine gO ?_; first | refine sy_ov (ov_p rfl) rfl rfl ?_ | (refine gG ?_; (refine sy_guard_yes rfl rfl rfl rfl rfl ?_ ?_; focus (first | with_reducible rfl | assumption | omega | (simp <;> first | omega | assumption)))) | (refine gB ?_; refine sy_ov (ov_neb rfl rfl) rfl rfl ?_) | (refine sy_ov (ov_pick_t rfl rfl ?_) rfl rfl ?_; focus (with_reducible rfl)) | (refine sy_ov (ov_pick_f rfl rfl ?_) rfl rfl ?_; focus (with_reducible rfl))) | (refine sy_cond_t rfl ?_ ?_; focus (first | with_reducible rfl | assumption | omega | (simp <;> first | omega | assumption))) | (refine sy_cond_f rfl ?_ ?_; focus (first | with_reducible rfl | assumption | omega | (simp <;> first | omega | assumption))))
        refine sy_ov (ov_call rfl (fun w _ => lives29_c w)) rfl rfl ?_
        repeat (first | refine sy_k rfl rfl ?_ | (refine gO ?_; first | refine sy_ov (ov_p rfl) rfl rfl ?_ | (refine sy_ov (ov_pick_t rfl rfl ?_) rfl rfl ?_; focus (with_reducible rfl))) | refine sy_rt ?_)
        exact ret1 rfl rfl rfl
      · have hxa' : flatD (plD (.mk k n s p c kids)) = xa := hxa
        have hxb' : flatD (plD (.mk k2 n2 s2 p2 c2 kids2)) = xb := hxb
        have hna' : colD (plD (.mk k n s p c kids)) = na := hna
        have hnb' : colD (plD (.mk k2 n2 s2 p2 c2 kids2)) = nb := hnb
        have hx0 : xs = xa ++ xb := by rw [← hxs, ← hxa', ← hxb']; rfl
        subst hx0
        have hla : xa.length ≤ 1048576 := by rw [← hxa']; have := flatD_le (plD (.mk k n s p c kids)); omega
        have hlb : xb.length ≤ 1048576 := by rw [← hxb']; have := flatD_le (plD (.mk k2 n2 s2 p2 c2 kids2)); omega
        have cww := cww rfl
        rw [hna', hnb'] at cww
        rw [hna'] at hc0
        rw [hnb'] at hc1
        repeat (first | refine sy_k rfl rfl ?_ | (refine gO ?_; first | refine sy_ov (ov_p rfl) rfl rfl ?_ | (refine gG ?_; (refine sy_guard_yes rfl rfl rfl rfl rfl ?_ ?_; focus (first | with_reducible rfl | assumption | omega | (simp <;> first | omega | assumption)))) | (refine gB ?_; refine sy_ov (ov_neb rfl rfl) rfl rfl ?_) | (refine sy_ov (ov_pick_t rfl rfl ?_) rfl rfl ?_; focus (with_reducible rfl)) | (refine sy_ov (ov_pick_f rfl rfl ?_) rfl rfl ?_; focus (with_reducible rfl))) | (refine sy_cond_f rfl ?_ ?_; focus (first | with_reducible rfl | assumption | omega | (simp <;> first | omega | assumption))))
        refine sy_weaken (fun _ _ h => h) (sd (sd (sd (sd sr)))) ?_
        repeat ((refine gO ?_; (refine gL ?_; refine sy_ov (ov_ld 1 rfl rfl rfl) rfl rfl ?_)))
        refine sy_ov (ov_call rfl (fun w hw => cwa w (hJa.at hw))) rfl rfl ?_
        repeat (first | refine sy_k rfl rfl ?_ | (refine gO ?_; first | refine sy_ov (ov_p rfl) rfl rfl ?_ | (refine gL ?_; refine sy_ov (ov_ld 0 rfl rfl rfl) rfl rfl ?_)))
        refine sy_ov (ov_call rfl (fun w hw => cwb w (hJb.at hw))) rfl rfl ?_
        repeat (first | refine sy_k rfl rfl ?_ | (refine gO ?_; refine sy_ov (ov_p rfl) rfl rfl ?_))
        refine sy_drawE _ 10 [(0, false), (2, false), (1, false), (3, true), (4, true), (5, true), (6, false), (7, false), (8, false), (9, false)] (by kernel_rfl) rfl (sr) ?_
        repeat (first | refine dre_rd (fun _ _ => ov_ld 0 rfl rfl rfl) rfl ?_ | refine dre_rd (fun _ _ => ov_ld 1 rfl rfl rfl) rfl ?_)
        refine dre_rd (fun _ _ => ov_call rfl (fun w hw => line29_c w)) rfl ?_
        refine dre_ef rfl ?_
        refine sy_buildSlice rfl rfl rfl rfl rfl rfl rfl rfl ?_
        intro m5
        refine dre_ek (sd sr) ?_
        refine dre_ef rfl ?_
        refine sy_callN rfl rfl (fun w hw => cat29_c [.mk k n s p c kids, .mk 2 0 [] none 0 [], .mk k2 n2 s2 p2 c2 kids2] (some ⟨m5, 0, none⟩) 3 (by simp) w (docJ_blk hw (i := 0) (m := 3) (l := [.mk k n s p c kids, .mk 2 0 [] none 0 [], .mk k2 n2 s2 p2 c2 kids2]) rfl rfl rfl rfl 0 0 [] (by simp) (all3 (hJa.at hw) (docJ0 _ _ _ _) (hJb.at hw)))) ?_
        rintro u es' ⟨p5, q5, rfl, rfl⟩
        simp only [List.cons_append, List.nil_append]
        refine dre_ek (sd (sd sr)) ?_
        refine dre_ef rfl ?_
        refine sy_ov (ov_call rfl (fun w hw => cww p5 q5 w (docJ_vec hw (i := 0) rfl 5 0 [] (by simp) (all3 (hJa.at hw) (docJ0 _ _ _ _) (hJb.at hw))))) rfl rfl ?_
        refine dre_ek (sd (sd sr)) ?_
        repeat (first | refine dre_rd (fun _ _ => ov_p rfl) rfl ?_ | refine dre_end ?_)
        simp only [List.drop_succ_cons, List.drop_zero]
        refine sy_weaken (fun _ _ h => h) (sd (sd sr)) ?_
        repeat (first | refine sy_k rfl rfl ?_ | (refine gO ?_; refine sy_ov (ov_p rfl) rfl rfl ?_))
        refine sy_drawE _ 27 [(0, false), (1, false), (2, false), (3, false), (4, false), (5, false), (6, false), (7, false), (8, false), (9, false), (10, false), (11, false), (12, false), (13, false), (14, false), (15, false), (16, false), (17, false), (18, false), (19, false), (20, false), (24, false), (26, false), (21, true), (22, true), (23, true), (25, true)] (by kernel_rfl) rfl (sr) ?_
        repeat (first | (refine dre_rd (fun _ _ => ov_pick_t rfl rfl ?_) rfl ?_; focus (first | with_reducible rfl | assumption | omega | (simp <;> first | omega | assumption))) | refine dre_rd (fun _ _ => ov_p rfl) rfl ?_ | (refine dre_rd (fun _ _ => ov_cat rfl rfl ?_) rfl ?_; focus (first | omega | (simp <;> omega))) | (refine dre_yes rfl rfl rfl rfl ?_ (fun _ _ => ov_p rfl) ?_; focus (first | with_reducible rfl | assumption | omega | (simp <;> first | omega | assumption))) | (refine dre_yes rfl rfl rfl rfl ?_ (fun _ _ => ov_ar rfl rfl rfl ?_ ?_) ?_; (focus (first | with_reducible rfl | assumption | omega | (simp <;> first | omega | assumption))); omega; omega) | (refine dre_yes rfl rfl rfl rfl ?_ (fun _ _ => ov_ld 0 rfl rfl rfl) ?_; focus (first | with_reducible rfl | assumption | omega | (simp <;> first | omega | assumption))) | (refine dre_yes rfl rfl rfl rfl ?_ (fun _ _ => ov_ld 1 rfl rfl rfl) ?_; focus (first | with_reducible rfl | assumption | omega | (simp <;> first | omega | assumption))))
        refine dre_efy rfl rfl rfl rfl ?_ rfl ?_
        focus (first | with_reducible rfl | (simp <;> first | omega | assumption))
        refine sy_buildSlice rfl rfl rfl rfl rfl rfl rfl rfl ?_
        intro m6
        refine dre_ek (sd sr) ?_
        refine dre_efy rfl rfl rfl rfl ?_ rfl ?_
        focus (first | with_reducible rfl | (simp <;> first | omega | assumption))
        refine sy_callN rfl rfl (fun w hw => group29_c [.mk k n s p c kids, .mk k2 n2 s2 p2 c2 kids2] (some ⟨m6, 0, none⟩) 2 (by simp) w (docJ_blk hw (i := 0) (m := 2) (l := [.mk k n s p c kids, .mk k2 n2 s2 p2 c2 kids2]) rfl rfl rfl rfl 0 0 [] (by simp) (all2 (hJa.at hw) (hJb.at hw)))) ?_
        rintro u es' ⟨p6, q6, rfl, rfl⟩
        simp only [List.cons_append, List.nil_append]
        refine dre_ek (sd (sd sr)) ?_
        refine dre_efy rfl rfl rfl rfl ?_ rfl ?_
        focus (first | with_reducible rfl | (simp <;> first | omega | assumption))
        refine sy_ov (ov_call rfl (fun w hw => cgg p6 q6 w (docJ_vec hw (i := 0) rfl 7 0 [] (by simp) (all2 (hJa.at hw) (hJb.at hw))))) rfl rfl ?_
        refine dre_ek (sd (sd sr)) ?_
        refine dre_efy rfl rfl rfl rfl ?_ rfl ?_
        focus (first | with_reducible rfl | (simp <;> first | omega | assumption))
        refine sy_ov (ov_call rfl (fun w hw => cga w (hJa.at hw))) rfl rfl ?_
        refine dre_ek (sd (sd sr)) ?_
        repeat (refine dre_end ?_)
        simp only [List.drop_succ_cons, List.drop_zero]
        repeat ((refine gO ?_; (refine gG ?_; (refine sy_guard_yes rfl rfl rfl rfl rfl ?_ ?_; focus (first | with_reducible rfl | assumption | omega | (simp <;> first | omega | assumption))))))
        refine sy_ov (ov_call rfl (fun w hw => cgb w (hJb.at hw))) rfl rfl ?_
        repeat ((refine gO ?_; first | refine sy_ov (ov_p rfl) rfl rfl ?_ | (refine gG ?_; (refine sy_guard_yes rfl rfl rfl rfl rfl ?_ ?_; focus (first | with_reducible rfl | assumption | omega | (simp <;> first | omega | assumption)))) | (refine gB ?_; (refine sy_ov (ov_ar rfl rfl rfl ?_ ?_) rfl rfl ?_; omega; omega)) | (refine sy_ov (ov_pick_t rfl rfl ?_) rfl rfl ?_; focus (with_reducible rfl))))
        refine sy_ov (ov_call rfl (fun w _ => lives29_c w)) rfl rfl ?_
        repeat (first | refine sy_k rfl rfl ?_ | (refine gO ?_; first | refine sy_ov (ov_p rfl) rfl rfl ?_ | (refine sy_ov (ov_pick_t rfl rfl ?_) rfl rfl ?_; focus (with_reducible rfl))) | refine sy_rt ?_)
        exact ret1 rfl rfl rfl
    · repeat (first | refine sy_k rfl rfl ?_ | (refine gO ?_; (refine sy_ov (ov_pick_f rfl rfl ?_) rfl rfl ?_; focus (with_reducible rfl))) | (refine sy_cond_t rfl ?_ ?_; focus (first | with_reducible rfl | assumption | omega | (simp <;> first | omega | assumption))))
      refine sy_ov (ov_call rfl (fun w _ => lives29_c w)) rfl rfl ?_
      repeat (first | refine sy_k rfl rfl ?_ | (refine gO ?_; refine sy_ov (ov_p rfl) rfl rfl ?_) | refine sy_rt ?_)
      exact ret1 rfl rfl rfl
  · repeat (first | refine sy_k rfl rfl ?_ | (refine gO ?_; first | refine sy_ov (ov_p rfl) rfl rfl ?_ | (refine gG ?_; (refine sy_guard_no rfl rfl rfl rfl rfl ?_ ?_; focus (first | with_reducible rfl | assumption | omega | (simp <;> first | omega | assumption)))) | refine sy_ov (ov_pick rfl rfl rfl) rfl rfl ?_) | (refine sy_cond_t rfl ?_ ?_; focus (first | with_reducible rfl | assumption | omega | (simp <;> first | omega | assumption))))
    refine sy_ov (ov_call rfl (fun w _ => lives29_c w)) rfl rfl ?_
    repeat (first | refine sy_k rfl rfl ?_ | (refine gO ?_; refine sy_ov (ov_p rfl) rfl rfl ?_) | refine sy_rt ?_)
    exact ret1 rfl rfl rfl
end Go.Proofs.Ytldjakeigjngoaa
