/- The walk of blindfoldlaw23.RawformStrips. -/
import Derived.Test.YtldjakeigjngoaaBFM
import Derived.Test.YtldjakeigjngoaaBST
import Derived.Test.YtldjakeigjngoaaBST
set_option linter.unusedVariables false
set_option linter.unusedSimpArgs false
namespace Go.Proofs.Ytldjakeigjngoaa
open Go.RowKit Bf
set_option maxRecDepth 20000 in
set_option maxHeartbeats 4000000 in
theorem great23_c (z : RawA) (n : Int) (hn : cntW (plR z) = n) (w : World) (hz : RawJ w z) : Calls Try.prog 26 #[.agg ⟨rawV z⟩] w fun e w' => e = .returned (.bool (decide (5000 < n))) ∧ Below w.heap.size w w' := by
  have hJ : St (fun _ => False) w (fun w => RawJ w z) := St.start (RawJ.bl z) hz
  have hs := fun w h => size_c22 _ z (Nat.le_refl _) w h
  rw [hn] at hs
  obtain ⟨k, a, n', s, pk, ck, keys, p, c, kids⟩ := z
  refine sy_enter rfl rfl ?_
  simp only [initFr]
  repeat (first | refine sy_k rfl rfl ?_ | (refine gO ?_; first | refine sy_ov (ov_p rfl) rfl rfl ?_ | (refine gL ?_; refine sy_ov (ov_ld 0 rfl rfl rfl) rfl rfl ?_) | (refine sy_box rfl rfl rfl ?_; intro _)))
  refine sy_ov (ov_call rfl (fun w hw => hs w (hJ.at hw))) rfl rfl ?_
  repeat (first | refine sy_k rfl rfl ?_ | (refine gO ?_; refine sy_ov (ov_p rfl) rfl rfl ?_) | refine sy_rt ?_)
  exact ret1 rfl rfl rfl
set_option maxRecDepth 20000 in
set_option maxHeartbeats 8000000 in
theorem rawformStrips_walk (w : World) (za zb : RawA) (ha : RawIn w za ∧ SzR za) (hb : RawIn w zb ∧ SzR zb) : Calls Try.prog 5 #[.agg ⟨rawV za⟩, .agg ⟨rawV zb⟩] w fun e w' => e = .returned (.bool true) ∧ Below w.heap.size w w' := by
  have hJa : St (fun _ => False) w (fun w => RawJ w za) := St.start (RawJ.bl za) ha.1.toJ
  have hJb : St (fun _ => False) w (fun w => RawJ w zb) := St.start (RawJ.bl zb) hb.1.toJ
  obtain ⟨na, hna⟩ : ∃ n, cntW (plR za) = n := ⟨_, rfl⟩
  obtain ⟨nb, hnb⟩ : ∃ n, cntW (plR zb) = n := ⟨_, rfl⟩
  have hga := fun w h => great23_c za na hna w h
  have hgb := fun w h => great23_c zb nb hnb w h
  have hra := rstrip_c _ za (Nat.le_refl _) ha.2
  have hrb := rstrip_c _ zb (Nat.le_refl _) hb.2
  have hpa := pstrip_c _ za (Nat.le_refl _) ha.2
  have hsab := fun w h h' => same23_c _ za (Nat.le_refl _) zb w h h'
  have hsaa := fun w h h' => same23_c _ za (Nat.le_refl _) za w h h'
  rw [samN_self] at hsaa
  rw [samN_strip] at hsab
  obtain ⟨q, hq⟩ : ∃ q, samR (stripR (plR za)) (stripR (plR zb)) = q := ⟨_, rfl⟩
  rw [hq] at hsab
  obtain ⟨pa, hpla⟩ : ∃ p, plR za = p := ⟨_, rfl⟩
  obtain ⟨pb, hplb⟩ : ∃ p, plR zb = p := ⟨_, rfl⟩
  rw [hpla, hplb] at hq
  clear hna hnb ha hb
  obtain ⟨k, a, n, s, pk, ck, keys, p, c, kids⟩ := za
  obtain ⟨k2, a2, n2, s2, pk2, ck2, keys2, p2, c2, kids2⟩ := zb
  by_cases h1 : 5000 < na
  · refine sy_enter rfl rfl ?_
    simp only [initFr]
    repeat (first | refine sy_k rfl rfl ?_ | (refine gO ?_; first | refine sy_ov (ov_p rfl) rfl rfl ?_ | (refine gL ?_; refine sy_ov (ov_ld 1 rfl rfl rfl) rfl rfl ?_) | (refine sy_box rfl rfl rfl ?_; intro _)))
    refine sy_ov (ov_call rfl (fun w hw => hga w (hJa.at hw))) rfl rfl ?_
    repeat (first | refine sy_k rfl rfl ?_ | (refine gO ?_; first | refine sy_ov (ov_p rfl) rfl rfl ?_ | (refine gG ?_; (refine sy_guard_no rfl rfl rfl rfl rfl ?_ ?_; focus (first | with_reducible rfl | assumption | omega | (simp <;> first | omega | assumption)))) | refine sy_ov (ov_pick rfl rfl rfl) rfl rfl ?_) | (refine sy_cond_t rfl ?_ ?_; focus (first | with_reducible rfl | assumption | omega | (simp <;> first | omega | assumption))))
    refine sy_ov (ov_call rfl (fun w _ => lives23_c w)) rfl rfl ?_
    repeat (first | refine sy_k rfl rfl ?_ | (refine gO ?_; refine sy_ov (ov_p rfl) rfl rfl ?_) | refine sy_rt ?_)
    exact ret1 rfl rfl rfl
  · by_cases h2 : 5000 < nb
    · refine sy_enter rfl rfl ?_
      simp only [initFr]
      repeat (first | refine sy_k rfl rfl ?_ | (refine gO ?_; first | refine sy_ov (ov_p rfl) rfl rfl ?_ | (refine gL ?_; refine sy_ov (ov_ld 1 rfl rfl rfl) rfl rfl ?_) | (refine sy_box rfl rfl rfl ?_; intro _)))
      refine sy_ov (ov_call rfl (fun w hw => hga w (hJa.at hw))) rfl rfl ?_
      repeat ((refine gO ?_; first | refine sy_ov (ov_p rfl) rfl rfl ?_ | (refine gG ?_; (refine sy_guard_yes rfl rfl rfl rfl rfl ?_ ?_; focus (first | with_reducible rfl | assumption | omega | (simp <;> first | omega | assumption)))) | (refine gL ?_; refine sy_ov (ov_ld 0 rfl rfl rfl) rfl rfl ?_)))
      refine sy_ov (ov_call rfl (fun w hw => hgb w (hJb.at hw))) rfl rfl ?_
      repeat (first | refine sy_k rfl rfl ?_ | (refine gO ?_; (refine sy_ov (ov_pick_f rfl rfl ?_) rfl rfl ?_; focus (with_reducible rfl))) | (refine sy_cond_t rfl ?_ ?_; focus (first | with_reducible rfl | assumption | omega | (simp <;> first | omega | assumption))))
      refine sy_ov (ov_call rfl (fun w _ => lives23_c w)) rfl rfl ?_
      repeat (first | refine sy_k rfl rfl ?_ | (refine gO ?_; refine sy_ov (ov_p rfl) rfl rfl ?_) | refine sy_rt ?_)
      exact ret1 rfl rfl rfl
    · refine sy_enter rfl rfl ?_
      simp only [initFr]
      repeat (first | refine sy_k rfl rfl ?_ | (refine gO ?_; first | refine sy_ov (ov_p rfl) rfl rfl ?_ | (refine gL ?_; refine sy_ov (ov_ld 1 rfl rfl rfl) rfl rfl ?_) | (refine sy_box rfl rfl rfl ?_; intro _)))
      refine sy_ov (ov_call rfl (fun w hw => hga w (hJa.at hw))) rfl rfl ?_
      repeat ((refine gO ?_; first | refine sy_ov (ov_p rfl) rfl rfl ?_ | (refine gG ?_; (refine sy_guard_yes rfl rfl rfl rfl rfl ?_ ?_; focus (first | with_reducible rfl | assumption | omega | (simp <;> first | omega | assumption)))) | (refine gL ?_; refine sy_ov (ov_ld 0 rfl rfl rfl) rfl rfl ?_)))
      refine sy_ov (ov_call rfl (fun w hw => hgb w (hJb.at hw))) rfl rfl ?_
      repeat (first | refine sy_k rfl rfl ?_ | (refine gO ?_; (refine sy_ov (ov_pick_f rfl rfl ?_) rfl rfl ?_; focus (with_reducible rfl))) | (refine sy_cond_f rfl ?_ ?_; focus (first | with_reducible rfl | assumption | omega | (simp <;> first | omega | assumption))))
      refine sy_drawE _ 3 [(0, false), (2, false), (1, true)] (by kernel_rfl) rfl (sr) ?_
      repeat (first | refine dre_rd (fun _ _ => ov_ld 0 rfl rfl rfl) rfl ?_ | refine dre_rd (fun _ _ => ov_ld 1 rfl rfl rfl) rfl ?_)
      refine dre_ef rfl ?_
      refine sy_callN rfl rfl (fun w hw => hra w (hJa.at hw)) ?_
      rintro u es' ⟨y1, rfl, rfl, hy1⟩
      simp only [List.cons_append, List.nil_append]
      refine dre_ek (sd sr) ?_
      repeat (refine dre_end ?_)
      skip
      refine sy_callN rfl rfl (fun w hw => hrb w (hJb.at hw)) ?_
      rintro u es' ⟨y2, rfl, rfl, hy2⟩
      simp only [List.cons_append, List.nil_append]
      skip
      refine sy_ov (ov_call rfl (fun w hw => rsame22_c _ y1 (Nat.le_refl _) y2 w (rawAt (i := 1) hw rfl) (rawAt (i := 0) hw rfl))) rfl rfl ?_
      rw [hy1, hy2, hpla, hplb, hq]
      repeat (first | refine sy_k rfl rfl ?_ | (refine gO ?_; refine sy_ov (ov_p rfl) rfl rfl ?_))
      refine sy_drawE _ 15 [(0, false), (2, false), (1, true), (3, true), (4, true), (5, false), (6, false), (7, false), (8, false), (9, false), (10, false), (11, false), (12, false), (13, false), (14, false)] (by kernel_rfl) rfl ((sd (sd sr))) ?_
      repeat (refine dre_rd (fun _ _ => ov_ld 1 rfl rfl rfl) rfl ?_)
      refine dre_ef rfl ?_
      refine sy_callN rfl rfl (fun w hw => hpa w (hJa.at hw)) ?_
      rintro u es' ⟨y3, rfl, rfl, hy3⟩
      simp only [List.cons_append, List.nil_append]
      refine dre_ek (sd (sd (sd sr))) ?_
      refine dre_ef rfl ?_
      refine sy_callN rfl rfl (fun w hw => hra w (hJa.at hw)) ?_
      rintro u es' ⟨y4, rfl, rfl, hy4⟩
      simp only [List.cons_append, List.nil_append]
      refine dre_ek (sd (sd (sd (sd sr)))) ?_
      refine dre_ef rfl ?_
      refine sy_ov (ov_call rfl (fun w hw => rsame22_c _ y3 (Nat.le_refl _) y4 w (rawAt (i := 1) hw rfl) (rawAt (i := 0) hw rfl))) rfl rfl ?_
      rw [hy3, hy4, samR_self]
      refine dre_ek (sd (sd (sd (sd sr)))) ?_
      repeat (first | refine dre_rd (fun _ _ => ov_p rfl) rfl ?_ | (refine dre_yes rfl rfl rfl rfl ?_ (fun _ _ => ov_ld 0 rfl rfl rfl) ?_; focus (first | with_reducible rfl | assumption | omega | (simp <;> first | omega | assumption))) | (refine dre_yes rfl rfl rfl rfl ?_ (fun _ _ => ov_ld 1 rfl rfl rfl) ?_; focus (first | with_reducible rfl | assumption | omega | (simp <;> first | omega | assumption))))
      refine dre_yes rfl rfl rfl rfl rfl (fun _ hC => ov_call rfl (fun w hw => hsab w ((hJa.le' hC).at hw) ((hJb.le' hC).at hw))) ?_
      repeat (first | (refine dre_rd (fun _ _ => ov_pick_t rfl rfl ?_) rfl ?_; focus (first | with_reducible rfl | assumption | omega | (simp <;> first | omega | assumption))) | refine dre_rd (fun _ _ => ov_p rfl) rfl ?_ | refine dre_end ?_ | (refine dre_yes rfl rfl rfl rfl ?_ (fun _ _ => ov_p rfl) ?_; focus (first | with_reducible rfl | assumption | omega | (simp <;> first | omega | assumption))) | (refine dre_yes rfl rfl rfl rfl ?_ (fun _ _ => ov_eqb rfl rfl) ?_; focus (first | with_reducible rfl | assumption | omega | (simp <;> first | omega | assumption))) | (refine dre_yes rfl rfl rfl rfl ?_ (fun _ _ => ov_ld 1 rfl rfl rfl) ?_; focus (first | with_reducible rfl | assumption | omega | (simp <;> first | omega | assumption))))
      simp only [List.drop_succ_cons, List.drop_zero]
      repeat ((refine gO ?_; (refine gG ?_; (refine sy_guard_yes rfl rfl rfl rfl rfl ?_ ?_; focus (first | with_reducible rfl | assumption | omega | (simp <;> first | omega | assumption))))))
      refine sy_ov (ov_call rfl (fun w hw => hsaa w (hJa.at hw) (hJa.at hw))) rfl rfl ?_
      repeat ((refine gO ?_; first | refine sy_ov (ov_p rfl) rfl rfl ?_ | (refine gG ?_; (refine sy_guard_yes rfl rfl rfl rfl rfl ?_ ?_; focus (first | with_reducible rfl | assumption | omega | (simp <;> first | omega | assumption)))) | (refine sy_ov (ov_pick_t rfl rfl ?_) rfl rfl ?_; focus (with_reducible rfl))))
      refine sy_ov (ov_call rfl (fun w _ => lives23_c w)) rfl rfl ?_
      repeat (first | refine sy_k rfl rfl ?_ | (refine gO ?_; first | refine sy_ov (ov_p rfl) rfl rfl ?_ | (refine sy_ov (ov_pick_t rfl rfl ?_) rfl rfl ?_; focus (with_reducible rfl))) | refine sy_rt ?_)
      exact ret1 rfl rfl rfl
end Go.Proofs.Ytldjakeigjngoaa
