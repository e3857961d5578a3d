/- Contract of blindfoldlaw14.does: the calls Take and Need; all calls. -/
import Derived.Test.YteiejcililponaaDoesQ
set_option linter.unusedVariables false
set_option linter.unusedSimpArgs false
namespace Go.Proofs.Yteiejcililponaa
open Go.RowKit Bf
set_option maxRecDepth 20000 in
set_option maxHeartbeats 4000000 in
theorem does_5 (b : Nat) (p : Option Addr) (q g q2 : Nat) (l : List TokT) (c : CurT) (hl : TokOk l) (hc : CurOk l c) (n a : Int) (s : List UInt8) : DoesTo b p q g q2 l c (5, n, a, s) (needT l c s) := by
  have ht := rc_take g q2 l c hl hc 4 s false
  rw [rtak_is] at ht
  have hn := cur_need b p q l c hl hc s
  by_cases hi : isT l c 4 s = true
  · have hg : needT l c s = nextT l c := if_pos hi
    have hgo : goT l c true = nextT l c := if_pos rfl
    rw [hi, hgo] at ht
    rw [hi, hg] at hn
    rw [hg]
    refine sy_enterE rfl rfl (fun w => ?_)
    simp only [initFr, curE, List.cons_append, List.nil_append]
    repeat (first | refine sy_k rfl rfl ?_ | (refine gO ?_; first | refine sy_ov (ov_p rfl) rfl rfl ?_ | (refine gL ?_; refine sy_ov (ov_ld 2 rfl rfl rfl) rfl rfl ?_) | (refine sy_box rfl rfl rfl ?_; intro _) | (refine sy_alloc rfl rfl rfl ?_; intro _)))
    refine sy_ov (ov_callE [vecE g q2 l] rfl (sd (sd (sd (sd (sd sr))))) (rc_peek g q2 l c hl hc)) rfl rfl ?_
    repeat (first | refine sy_k rfl rfl ?_ | (refine gO ?_; first | refine sy_ov (ov_p rfl) rfl rfl ?_ | (refine gL ?_; first | refine sy_ov (ov_ld 2 rfl rfl rfl) rfl rfl ?_ | refine sy_ov (ov_ld 3 rfl rfl rfl) rfl rfl ?_) | (refine gS ?_; refine sy_store 0 rfl rfl rfl rfl rfl rfl rfl rfl ?_) | refine sy_ov (ov_fieldAddr rfl rfl rfl) rfl rfl ?_ | (refine sy_alloc rfl rfl rfl ?_; intro _)) | (refine sy_cond_t rfl ?_ ?_; focus (first | with_reducible rfl | assumption | omega | (simp <;> first | omega | assumption))) | (refine sy_cond_f rfl ?_ ?_; focus (first | with_reducible rfl | assumption | omega | (simp <;> first | omega | assumption))))
    refine sy_ov (ov_callE [vecE g q2 l] rfl (by repeat first | exact sr | apply sd) (ht)) rfl rfl ?_
    repeat (first | refine sy_k rfl rfl ?_ | (refine gO ?_; first | refine sy_ov (ov_p rfl) rfl rfl ?_ | (refine gG ?_; (refine sy_guard_no rfl rfl rfl rfl rfl ?_ ?_; focus (first | with_reducible rfl | assumption | omega | (simp <;> first | omega | assumption)))) | (refine gS ?_; refine sy_store 0 rfl rfl rfl rfl rfl rfl rfl rfl ?_) | refine sy_ov (ov_pick rfl rfl rfl) rfl rfl ?_ | (refine sy_alloc rfl rfl rfl ?_; intro _)) | (refine sy_cond_f rfl ?_ ?_; focus (first | with_reducible rfl | assumption | omega | (simp <;> first | omega | assumption))))
    refine sy_front 6 rfl rfl ?_
    simp only [List.set_cons_zero, List.set_cons_succ, List.eraseIdx_cons_succ, List.eraseIdx_cons_zero]
    refine sy_front 6 rfl rfl ?_
    simp only [List.set_cons_zero, List.set_cons_succ, List.eraseIdx_cons_succ, List.eraseIdx_cons_zero]
    refine sy_drawE _ 8 [(0, false), (1, false), (2, false), (3, false), (5, false), (4, true), (6, false), (7, true)] (by kernel_rfl) rfl (sd (sd (sk (sk (sd (sk (sk sr))))))) ?_
    repeat (first | refine dre_rd (fun _ _ => ov_p rfl) rfl ?_ | refine dre_rd (fun _ _ => ov_ld 0 rfl rfl rfl) rfl ?_ | refine dre_rd (fun _ _ => ov_ld 2 rfl rfl rfl) rfl ?_ | refine dre_rd (fun _ _ => ov_fieldAddr rfl rfl rfl) rfl ?_)
    refine dre_ef rfl ?_
    refine sy_callE (curE b p q l c) rfl rfl rfl (hn) ?_
    rintro _ _ ⟨rfl, rfl⟩
    simp only [curE, List.cons_append, List.nil_append]
    refine dre_ek (sd (sd (sk (sk (sd (sk (sk sr))))))) ?_
    repeat (first | refine dre_rd (fun _ _ => ov_eqb rfl rfl) rfl ?_ | (refine dre_ef rfl ?_; refine sy_store 4 rfl rfl rfl rfl rfl rfl rfl rfl ?_; refine dre_ek (by first | exact sr | exact sk sr | (repeat first | exact sr | apply sk | apply sd)) ?_) | refine dre_end ?_)
    repeat (first | refine sy_k rfl rfl ?_ | (refine gO ?_; refine sy_ov (ov_p rfl) rfl rfl ?_) | refine sy_rt ?_)
    exact ret2ct 4 rfl rfl rfl rfl rfl rfl fun w' hw' => postE hw' _ (sub_self (by (try unfold curE); repeat first | exact sr | apply sk | apply sd)) rfl ⟨rfl, rfl⟩
  · have hi : isT l c 4 s = false := by simpa using hi
    have hgo : goT l c false = c := if_neg (by simp)
    rw [hi, hgo] at ht
    by_cases h0 : (peekT l c).1 = 0
    · have hg : needT l c s = failAtT c 5 (peekT l c).2.1 := by unfold needT; rw [hi, if_neg (by simp), if_pos h0]; rfl
      rw [hi, hg] at hn
      rw [hg]
      refine sy_enterE rfl rfl (fun w => ?_)
      simp only [initFr, curE, List.cons_append, List.nil_append]
      repeat (first | refine sy_k rfl rfl ?_ | (refine gO ?_; first | refine sy_ov (ov_p rfl) rfl rfl ?_ | (refine gL ?_; refine sy_ov (ov_ld 2 rfl rfl rfl) rfl rfl ?_) | (refine sy_box rfl rfl rfl ?_; intro _) | (refine sy_alloc rfl rfl rfl ?_; intro _)))
      refine sy_ov (ov_callE [vecE g q2 l] rfl (sd (sd (sd (sd (sd sr))))) (rc_peek g q2 l c hl hc)) rfl rfl ?_
      repeat (first | refine sy_k rfl rfl ?_ | (refine gO ?_; first | refine sy_ov (ov_p rfl) rfl rfl ?_ | (refine gL ?_; first | refine sy_ov (ov_ld 2 rfl rfl rfl) rfl rfl ?_ | refine sy_ov (ov_ld 3 rfl rfl rfl) rfl rfl ?_) | (refine gS ?_; refine sy_store 0 rfl rfl rfl rfl rfl rfl rfl rfl ?_) | refine sy_ov (ov_fieldAddr rfl rfl rfl) rfl rfl ?_ | (refine sy_alloc rfl rfl rfl ?_; intro _)) | (refine sy_cond_t rfl ?_ ?_; focus (first | with_reducible rfl | assumption | omega | (simp <;> first | omega | assumption))) | (refine sy_cond_f rfl ?_ ?_; focus (first | with_reducible rfl | assumption | omega | (simp <;> first | omega | assumption))))
      refine sy_ov (ov_callE [vecE g q2 l] rfl (by repeat first | exact sr | apply sd) (ht)) rfl rfl ?_
      repeat (first | refine sy_k rfl rfl ?_ | (refine gO ?_; first | refine sy_ov (ov_p rfl) rfl rfl ?_ | (refine gG ?_; (refine sy_guard_yes rfl rfl rfl rfl rfl ?_ ?_; focus (first | with_reducible rfl | assumption | omega | (simp <;> first | omega | assumption)))) | (refine gL ?_; first | refine sy_ov (ov_ld 1 rfl rfl rfl) rfl rfl ?_ | refine sy_ov (ov_ld 4 rfl rfl rfl) rfl rfl ?_) | (refine gS ?_; refine sy_store 0 rfl rfl rfl rfl rfl rfl rfl rfl ?_) | (refine sy_ov (ov_pick_t rfl rfl ?_) rfl rfl ?_; focus (with_reducible rfl)) | refine sy_ov (ov_fieldAddr rfl rfl rfl) rfl rfl ?_ | (refine sy_alloc rfl rfl rfl ?_; intro _)) | (refine sy_cond_t rfl ?_ ?_; focus (first | with_reducible rfl | assumption | omega | (simp <;> first | omega | assumption))))
      refine sy_ov (ov_callE [vecE g q2 l] rfl (by repeat first | exact sr | apply sd) (rc_fail g q2 l c 5 (peekT l c).2.1)) rfl rfl ?_
      repeat (first | refine sy_k rfl rfl ?_ | (refine gO ?_; first | refine sy_ov (ov_p rfl) rfl rfl ?_ | (refine gG ?_; (refine sy_guard_yes rfl rfl rfl rfl rfl ?_ ?_; focus (first | with_reducible rfl | assumption | omega | (simp <;> first | omega | assumption)))) | (refine gL ?_; refine sy_ov (ov_ld 1 rfl rfl rfl) rfl rfl ?_) | (refine gS ?_; refine sy_store 0 rfl rfl rfl rfl rfl rfl rfl rfl ?_) | (refine sy_ov (ov_pick_t rfl rfl ?_) rfl rfl ?_; focus (with_reducible rfl)) | refine sy_ov (ov_fieldAddr rfl rfl rfl) rfl rfl ?_) | (refine sy_cond_f rfl ?_ ?_; focus (first | with_reducible rfl | assumption | omega | (simp <;> first | omega | assumption))))
      refine sy_front 6 rfl rfl ?_
      simp only [List.set_cons_zero, List.set_cons_succ, List.eraseIdx_cons_succ, List.eraseIdx_cons_zero]
      refine sy_front 6 rfl rfl ?_
      simp only [List.set_cons_zero, List.set_cons_succ, List.eraseIdx_cons_succ, List.eraseIdx_cons_zero]
      refine sy_drawE _ 8 [(0, false), (1, false), (2, false), (3, false), (5, false), (4, true), (6, false), (7, true)] (by kernel_rfl) rfl (sd (sd (sk (sk (sd (sk (sk sr))))))) ?_
      repeat (first | refine dre_rd (fun _ _ => ov_p rfl) rfl ?_ | refine dre_rd (fun _ _ => ov_ld 0 rfl rfl rfl) rfl ?_ | refine dre_rd (fun _ _ => ov_ld 2 rfl rfl rfl) rfl ?_ | refine dre_rd (fun _ _ => ov_fieldAddr rfl rfl rfl) rfl ?_)
      refine dre_ef rfl ?_
      refine sy_callE (curE b p q l c) rfl rfl rfl (hn) ?_
      rintro _ _ ⟨rfl, rfl⟩
      simp only [curE, List.cons_append, List.nil_append]
      refine dre_ek (sd (sd (sk (sk (sd (sk (sk sr))))))) ?_
      repeat (first | refine dre_rd (fun _ _ => ov_eqb rfl rfl) rfl ?_ | (refine dre_ef rfl ?_; refine sy_store 4 rfl rfl rfl rfl rfl rfl rfl rfl ?_; refine dre_ek (by first | exact sr | exact sk sr | (repeat first | exact sr | apply sk | apply sd)) ?_) | refine dre_end ?_)
      repeat (first | refine sy_k rfl rfl ?_ | (refine gO ?_; refine sy_ov (ov_p rfl) rfl rfl ?_) | refine sy_rt ?_)
      exact ret2ct 4 rfl rfl rfl rfl rfl rfl fun w' hw' => postE hw' _ (sub_self (by (try unfold curE); repeat first | exact sr | apply sk | apply sd)) rfl ⟨rfl, rfl⟩
    · have hg : needT l c s = failAtT c 4 (peekT l c).2.1 := by unfold needT; rw [hi, if_neg (by simp), if_neg h0]; rfl
      rw [hi, hg] at hn
      rw [hg]
      refine sy_enterE rfl rfl (fun w => ?_)
      simp only [initFr, curE, List.cons_append, List.nil_append]
      repeat (first | refine sy_k rfl rfl ?_ | (refine gO ?_; first | refine sy_ov (ov_p rfl) rfl rfl ?_ | (refine gL ?_; refine sy_ov (ov_ld 2 rfl rfl rfl) rfl rfl ?_) | (refine sy_box rfl rfl rfl ?_; intro _) | (refine sy_alloc rfl rfl rfl ?_; intro _)))
      refine sy_ov (ov_callE [vecE g q2 l] rfl (sd (sd (sd (sd (sd sr))))) (rc_peek g q2 l c hl hc)) rfl rfl ?_
      repeat (first | refine sy_k rfl rfl ?_ | (refine gO ?_; first | refine sy_ov (ov_p rfl) rfl rfl ?_ | (refine gL ?_; first | refine sy_ov (ov_ld 2 rfl rfl rfl) rfl rfl ?_ | refine sy_ov (ov_ld 3 rfl rfl rfl) rfl rfl ?_) | (refine gS ?_; refine sy_store 0 rfl rfl rfl rfl rfl rfl rfl rfl ?_) | refine sy_ov (ov_fieldAddr rfl rfl rfl) rfl rfl ?_ | (refine sy_alloc rfl rfl rfl ?_; intro _)) | (refine sy_cond_t rfl ?_ ?_; focus (first | with_reducible rfl | assumption | omega | (simp <;> first | omega | assumption))) | (refine sy_cond_f rfl ?_ ?_; focus (first | with_reducible rfl | assumption | omega | (simp <;> first | omega | assumption))))
      refine sy_ov (ov_callE [vecE g q2 l] rfl (by repeat first | exact sr | apply sd) (ht)) rfl rfl ?_
      repeat (first | refine sy_k rfl rfl ?_ | (refine gO ?_; first | refine sy_ov (ov_p rfl) rfl rfl ?_ | (refine gG ?_; (refine sy_guard_yes rfl rfl rfl rfl rfl ?_ ?_; focus (first | with_reducible rfl | assumption | omega | (simp <;> first | omega | assumption)))) | (refine gL ?_; first | refine sy_ov (ov_ld 1 rfl rfl rfl) rfl rfl ?_ | refine sy_ov (ov_ld 4 rfl rfl rfl) rfl rfl ?_) | (refine gS ?_; refine sy_store 0 rfl rfl rfl rfl rfl rfl rfl rfl ?_) | (refine sy_ov (ov_pick_t rfl rfl ?_) rfl rfl ?_; focus (with_reducible rfl)) | refine sy_ov (ov_fieldAddr rfl rfl rfl) rfl rfl ?_ | (refine sy_alloc rfl rfl rfl ?_; intro _)) | (refine sy_cond_t rfl ?_ ?_; focus (first | with_reducible rfl | assumption | omega | (simp <;> first | omega | assumption))) | (refine sy_cond_f rfl ?_ ?_; focus (first | with_reducible rfl | assumption | omega | (simp <;> first | omega | assumption))))
      refine sy_ov (ov_callE [vecE g q2 l] rfl (by repeat first | exact sr | apply sd) (rc_fail g q2 l c 4 (peekT l c).2.1)) rfl rfl ?_
      repeat (first | refine sy_k rfl rfl ?_ | (refine gO ?_; (refine gS ?_; refine sy_store 0 rfl rfl rfl rfl rfl rfl rfl rfl ?_)))
      refine sy_front 6 rfl rfl ?_
      simp only [List.set_cons_zero, List.set_cons_succ, List.eraseIdx_cons_succ, List.eraseIdx_cons_zero]
      refine sy_front 6 rfl rfl ?_
      simp only [List.set_cons_zero, List.set_cons_succ, List.eraseIdx_cons_succ, List.eraseIdx_cons_zero]
      refine sy_drawE _ 8 [(0, false), (1, false), (2, false), (3, false), (5, false), (4, true), (6, false), (7, true)] (by kernel_rfl) rfl (sd (sd (sk (sk (sd (sk (sk sr))))))) ?_
      repeat (first | refine dre_rd (fun _ _ => ov_p rfl) rfl ?_ | refine dre_rd (fun _ _ => ov_ld 0 rfl rfl rfl) rfl ?_ | refine dre_rd (fun _ _ => ov_ld 2 rfl rfl rfl) rfl ?_ | refine dre_rd (fun _ _ => ov_fieldAddr rfl rfl rfl) rfl ?_)
      refine dre_ef rfl ?_
      refine sy_callE (curE b p q l c) rfl rfl rfl (hn) ?_
      rintro _ _ ⟨rfl, rfl⟩
      simp only [curE, List.cons_append, List.nil_append]
      refine dre_ek (sd (sd (sk (sk (sd (sk (sk sr))))))) ?_
      repeat (first | refine dre_rd (fun _ _ => ov_eqb rfl rfl) rfl ?_ | (refine dre_ef rfl ?_; refine sy_store 4 rfl rfl rfl rfl rfl rfl rfl rfl ?_; refine dre_ek (by first | exact sr | exact sk sr | (repeat first | exact sr | apply sk | apply sd)) ?_) | refine dre_end ?_)
      repeat (first | refine sy_k rfl rfl ?_ | (refine gO ?_; refine sy_ov (ov_p rfl) rfl rfl ?_) | refine sy_rt ?_)
      exact ret2ct 4 rfl rfl rfl rfl rfl rfl fun w' hw' => postE hw' _ (sub_self (by (try unfold curE); repeat first | exact sr | apply sk | apply sd)) rfl ⟨rfl, rfl⟩
theorem rtak_any (l : List TokT) (c : CurT) (k : Int) : rtakT l c k [] true = decide ((peekT l c).1 = k) := by unfold rtakT; simp
set_option maxRecDepth 20000 in
set_option maxHeartbeats 4000000 in
theorem does_4 (b : Nat) (p : Option Addr) (q g q2 : Nat) (l : List TokT) (c : CurT) (hl : TokOk l) (hc : CurOk l c) (n a : Int) (s : List UInt8) : DoesTo b p q g q2 l c (4, n, a, s) (goT l c (takT l c n)) := by
  have ht := rc_take g q2 l c hl hc n [] true
  rw [rtak_any] at ht
  have hn := cur_take b p q l c hl hc n
  unfold takV at hn
  by_cases h1 : (peekT l c).1 = n
  · by_cases h0 : (peekT l c).1 = 0
    · have hk : takT l c n = false := by unfold takT; simp [h0]
      have hx : nextT l c = c := if_pos h0
      have hgo : goT l c false = c := if_neg (by simp)
      have hgt : goT l c true = nextT l c := if_pos rfl
      rw [hk, if_neg (by simp), hgo] at hn
      rw [decide_eq_true h1, hgt, hx] at ht
      rw [hk, hgo]
      refine sy_enterE rfl rfl (fun w => ?_)
      simp only [initFr, curE, List.cons_append, List.nil_append]
      repeat (first | refine sy_k rfl rfl ?_ | (refine gO ?_; first | refine sy_ov (ov_p rfl) rfl rfl ?_ | (refine gL ?_; refine sy_ov (ov_ld 2 rfl rfl rfl) rfl rfl ?_) | (refine sy_box rfl rfl rfl ?_; intro _) | (refine sy_alloc rfl rfl rfl ?_; intro _)))
      refine sy_ov (ov_callE [vecE g q2 l] rfl (sd (sd (sd (sd (sd sr))))) (rc_peek g q2 l c hl hc)) rfl rfl ?_
      repeat (first | refine sy_k rfl rfl ?_ | (refine gO ?_; first | refine sy_ov (ov_p rfl) rfl rfl ?_ | (refine gL ?_; first | refine sy_ov (ov_ld 2 rfl rfl rfl) rfl rfl ?_ | refine sy_ov (ov_ld 3 rfl rfl rfl) rfl rfl ?_) | (refine gS ?_; refine sy_store 0 rfl rfl rfl rfl rfl rfl rfl rfl ?_) | refine sy_ov (ov_fieldAddr rfl rfl rfl) rfl rfl ?_ | (refine sy_alloc rfl rfl rfl ?_; intro _)) | (refine sy_cond_t rfl ?_ ?_; focus (first | with_reducible rfl | assumption | omega | (simp <;> first | omega | assumption))) | (refine sy_cond_f rfl ?_ ?_; focus (first | with_reducible rfl | assumption | omega | (simp <;> first | omega | assumption))))
      refine sy_ov (ov_callE [vecE g q2 l] rfl (by repeat first | exact sr | apply sd) (ht)) rfl rfl ?_
      repeat (first | refine sy_k rfl rfl ?_ | (refine gO ?_; first | refine sy_ov (ov_p rfl) rfl rfl ?_ | (refine gG ?_; (refine sy_guard_yes rfl rfl rfl rfl rfl ?_ ?_; focus (first | with_reducible rfl | assumption | omega | (simp <;> first | omega | assumption)))) | (refine gL ?_; first | refine sy_ov (ov_ld 1 rfl rfl rfl) rfl rfl ?_ | refine sy_ov (ov_ld 3 rfl rfl rfl) rfl rfl ?_) | (refine gS ?_; refine sy_store 0 rfl rfl rfl rfl rfl rfl rfl rfl ?_) | (refine sy_ov (ov_pick_t rfl rfl ?_) rfl rfl ?_; focus (with_reducible rfl)) | refine sy_ov (ov_fieldAddr rfl rfl rfl) rfl rfl ?_ | (refine sy_alloc rfl rfl rfl ?_; intro _)))
      refine sy_front 6 rfl rfl ?_
      simp only [List.set_cons_zero, List.set_cons_succ, List.eraseIdx_cons_succ, List.eraseIdx_cons_zero]
      refine sy_front 6 rfl rfl ?_
      simp only [List.set_cons_zero, List.set_cons_succ, List.eraseIdx_cons_succ, List.eraseIdx_cons_zero]
      refine sy_callE (curE b p q l c) rfl rfl rfl (hn) ?_
      rintro _ _ ⟨rfl, rfl⟩
      simp only [curE, List.cons_append, List.nil_append]
      repeat (first | refine sy_k rfl rfl ?_ | (refine gO ?_; first | refine sy_ov (ov_p rfl) rfl rfl ?_ | (refine gS ?_; refine sy_store 0 rfl rfl rfl rfl rfl rfl rfl rfl ?_) | (refine sy_alloc rfl rfl rfl ?_; intro _)))
      refine sy_drawE _ 22 [(0, false), (1, false), (2, false), (3, false), (4, false), (5, false), (6, false), (7, false), (8, false), (9, false), (10, false), (11, false), (12, false), (13, false), (14, false), (15, false), (16, false), (17, false), (18, false), (19, false), (20, false), (21, true)] (by kernel_rfl) rfl (sk (sk (sk (sk (sk (sd sr)))))) ?_
      repeat (first | refine dre_rd (fun _ _ => ov_p rfl) rfl ?_ | refine dre_rd (fun _ _ => ov_eqb rfl rfl) rfl ?_ | refine dre_rd (fun _ _ => ov_ld 3 rfl rfl rfl) rfl ?_ | (refine dre_yes rfl rfl rfl rfl ?_ (fun _ _ => ov_p rfl) ?_; focus (first | with_reducible rfl | assumption | omega | (simp <;> first | omega | assumption))) | (refine dre_yes rfl rfl rfl rfl ?_ (fun _ _ => ov_ld 0 rfl rfl rfl) ?_; focus (first | with_reducible rfl | assumption | omega | (simp <;> first | omega | assumption))) | (refine dre_yes rfl rfl rfl rfl ?_ (fun _ _ => ov_build rfl rfl rfl) ?_; focus (first | with_reducible rfl | assumption | omega | (simp <;> first | omega | assumption))) | (refine dre_yes rfl rfl rfl rfl ?_ (fun _ _ => ov_pick_f rfl rfl ?_) ?_; (focus (first | with_reducible rfl | assumption | omega | (simp <;> first | omega | assumption))); focus (first | with_reducible rfl | assumption | omega | (simp <;> first | omega | assumption))) | (refine dre_no rfl rfl rfl rfl ?_ ?_; focus (first | with_reducible rfl | assumption | omega | (simp <;> first | omega | assumption))))
      refine dre_yes rfl rfl rfl rfl ?_ (fun _ _ => ov_eqst (xs := tokV (ztk)) (ys := tokV (ztk)) rfl rfl rfl rfl) ?_
      focus (first | with_reducible rfl | (simp <;> first | omega | assumption))
      rw [eqL_tok]
      repeat (first | (refine dre_rd (fun _ _ => ov_pick_t rfl rfl ?_) rfl ?_; focus (first | with_reducible rfl | assumption | omega | (simp <;> first | omega | assumption))) | (refine dre_ef rfl ?_; refine sy_store 5 rfl rfl rfl rfl rfl rfl rfl rfl ?_; refine dre_ek (by first | exact sr | exact sk sr | (repeat first | exact sr | apply sk | apply sd)) ?_) | refine dre_end ?_ | (refine dre_yes rfl rfl rfl rfl ?_ (fun _ _ => ov_pick_t rfl rfl ?_) ?_; (focus (first | with_reducible rfl | assumption | omega | (simp <;> first | omega | assumption))); focus (first | with_reducible rfl | assumption | omega | (simp <;> first | omega | assumption))) | (refine dre_yes rfl rfl rfl rfl ?_ (fun _ _ => ov_pick_f rfl rfl ?_) ?_; (focus (first | with_reducible rfl | assumption | omega | (simp <;> first | omega | assumption))); focus (first | with_reducible rfl | assumption | omega | (simp <;> first | omega | assumption))))
      repeat (first | refine sy_k rfl rfl ?_ | (refine gO ?_; refine sy_ov (ov_p rfl) rfl rfl ?_) | refine sy_rt ?_)
      exact ret2ct 5 rfl rfl rfl rfl rfl rfl fun w' hw' => postE hw' _ (sub_self (by (try unfold curE); repeat first | exact sr | apply sk | apply sd)) rfl ⟨rfl, rfl⟩
    · have hk : takT l c n = true := by unfold takT; rw [decide_eq_false h0, decide_eq_true h1]; rfl
      have hgt : goT l c true = nextT l c := if_pos rfl
      rw [hk, if_pos rfl, hgt] at hn
      rw [decide_eq_true h1, hgt] at ht
      rw [hk, hgt]
      refine sy_enterE rfl rfl (fun w => ?_)
      simp only [initFr, curE, List.cons_append, List.nil_append]
      repeat (first | refine sy_k rfl rfl ?_ | (refine gO ?_; first | refine sy_ov (ov_p rfl) rfl rfl ?_ | (refine gL ?_; refine sy_ov (ov_ld 2 rfl rfl rfl) rfl rfl ?_) | (refine sy_box rfl rfl rfl ?_; intro _) | (refine sy_alloc rfl rfl rfl ?_; intro _)))
      refine sy_ov (ov_callE [vecE g q2 l] rfl (sd (sd (sd (sd (sd sr))))) (rc_peek g q2 l c hl hc)) rfl rfl ?_
      repeat (first | refine sy_k rfl rfl ?_ | (refine gO ?_; first | refine sy_ov (ov_p rfl) rfl rfl ?_ | (refine gL ?_; first | refine sy_ov (ov_ld 2 rfl rfl rfl) rfl rfl ?_ | refine sy_ov (ov_ld 3 rfl rfl rfl) rfl rfl ?_) | (refine gS ?_; refine sy_store 0 rfl rfl rfl rfl rfl rfl rfl rfl ?_) | refine sy_ov (ov_fieldAddr rfl rfl rfl) rfl rfl ?_ | (refine sy_alloc rfl rfl rfl ?_; intro _)) | (refine sy_cond_t rfl ?_ ?_; focus (first | with_reducible rfl | assumption | omega | (simp <;> first | omega | assumption))) | (refine sy_cond_f rfl ?_ ?_; focus (first | with_reducible rfl | assumption | omega | (simp <;> first | omega | assumption))))
      refine sy_ov (ov_callE [vecE g q2 l] rfl (by repeat first | exact sr | apply sd) (ht)) rfl rfl ?_
      repeat (first | refine sy_k rfl rfl ?_ | (refine gO ?_; first | refine sy_ov (ov_p rfl) rfl rfl ?_ | (refine gG ?_; (refine sy_guard_yes rfl rfl rfl rfl rfl ?_ ?_; focus (first | with_reducible rfl | assumption | omega | (simp <;> first | omega | assumption)))) | (refine gL ?_; first | refine sy_ov (ov_ld 1 rfl rfl rfl) rfl rfl ?_ | refine sy_ov (ov_ld 3 rfl rfl rfl) rfl rfl ?_) | (refine gS ?_; refine sy_store 0 rfl rfl rfl rfl rfl rfl rfl rfl ?_) | (refine sy_ov (ov_pick_t rfl rfl ?_) rfl rfl ?_; focus (with_reducible rfl)) | refine sy_ov (ov_fieldAddr rfl rfl rfl) rfl rfl ?_ | (refine sy_alloc rfl rfl rfl ?_; intro _)))
      refine sy_front 6 rfl rfl ?_
      simp only [List.set_cons_zero, List.set_cons_succ, List.eraseIdx_cons_succ, List.eraseIdx_cons_zero]
      refine sy_front 6 rfl rfl ?_
      simp only [List.set_cons_zero, List.set_cons_succ, List.eraseIdx_cons_succ, List.eraseIdx_cons_zero]
      refine sy_callE (curE b p q l c) rfl rfl rfl (hn) ?_
      rintro _ _ ⟨rfl, rfl⟩
      simp only [curE, List.cons_append, List.nil_append]
      repeat (first | refine sy_k rfl rfl ?_ | (refine gO ?_; first | refine sy_ov (ov_p rfl) rfl rfl ?_ | (refine gS ?_; refine sy_store 0 rfl rfl rfl rfl rfl rfl rfl rfl ?_) | (refine sy_alloc rfl rfl rfl ?_; intro _)))
      refine sy_drawE _ 22 [(0, false), (1, false), (2, false), (3, false), (4, false), (5, false), (6, false), (7, false), (8, false), (9, false), (10, false), (11, false), (12, false), (13, false), (14, false), (15, false), (16, false), (17, false), (18, false), (19, false), (20, false), (21, true)] (by kernel_rfl) rfl (sk (sk (sk (sk (sk (sd sr)))))) ?_
      repeat (first | refine dre_rd (fun _ _ => ov_p rfl) rfl ?_ | refine dre_rd (fun _ _ => ov_eqb rfl rfl) rfl ?_ | refine dre_rd (fun _ _ => ov_ld 3 rfl rfl rfl) rfl ?_ | (refine dre_yes rfl rfl rfl rfl ?_ (fun _ _ => ov_p rfl) ?_; focus (first | with_reducible rfl | assumption | omega | (simp <;> first | omega | assumption))) | (refine dre_yes rfl rfl rfl rfl ?_ (fun _ _ => ov_ld 0 rfl rfl rfl) ?_; focus (first | with_reducible rfl | assumption | omega | (simp <;> first | omega | assumption))) | (refine dre_yes rfl rfl rfl rfl ?_ (fun _ _ => ov_ld 4 rfl rfl rfl) ?_; focus (first | with_reducible rfl | assumption | omega | (simp <;> first | omega | assumption))))
      refine dre_yes rfl rfl rfl rfl ?_ (fun _ _ => ov_eqst (xs := tokV (peekT l c)) (ys := tokV (peekT l c)) rfl rfl rfl rfl) ?_
      focus (first | with_reducible rfl | (simp <;> first | omega | assumption))
      rw [eqL_tok]
      repeat (first | (refine dre_rd (fun _ _ => ov_pick_t rfl rfl ?_) rfl ?_; focus (first | with_reducible rfl | assumption | omega | (simp <;> first | omega | assumption))) | (refine dre_ef rfl ?_; refine sy_store 5 rfl rfl rfl rfl rfl rfl rfl rfl ?_; refine dre_ek (by first | exact sr | exact sk sr | (repeat first | exact sr | apply sk | apply sd)) ?_) | refine dre_end ?_ | (refine dre_yes rfl rfl rfl rfl ?_ (fun _ _ => ov_p rfl) ?_; focus (first | with_reducible rfl | assumption | omega | (simp <;> first | omega | assumption))) | (refine dre_yes rfl rfl rfl rfl ?_ (fun _ _ => ov_pick_t rfl rfl ?_) ?_; (focus (first | with_reducible rfl | assumption | omega | (simp <;> first | omega | assumption))); focus (first | with_reducible rfl | assumption | omega | (simp <;> first | omega | assumption))) | (refine dre_no rfl rfl rfl rfl ?_ ?_; focus (first | with_reducible rfl | assumption | omega | (simp <;> first | omega | assumption))) | refine dre_undef rfl rfl rfl rfl ?_)
      repeat (first | refine sy_k rfl rfl ?_ | (refine gO ?_; refine sy_ov (ov_p rfl) rfl rfl ?_) | refine sy_rt ?_)
      exact ret2ct 5 rfl rfl rfl rfl rfl rfl fun w' hw' => postE hw' _ (sub_self (by (try unfold curE); repeat first | exact sr | apply sk | apply sd)) rfl ⟨rfl, rfl⟩
  · have hk : takT l c n = false := by unfold takT; simp [h1]
    have hgo : goT l c false = c := if_neg (by simp)
    rw [hk, if_neg (by simp), hgo] at hn
    rw [decide_eq_false h1, hgo] at ht
    rw [hk, hgo]
    refine sy_enterE rfl rfl (fun w => ?_)
    simp only [initFr, curE, List.cons_append, List.nil_append]
    repeat (first | refine sy_k rfl rfl ?_ | (refine gO ?_; first | refine sy_ov (ov_p rfl) rfl rfl ?_ | (refine gL ?_; refine sy_ov (ov_ld 2 rfl rfl rfl) rfl rfl ?_) | (refine sy_box rfl rfl rfl ?_; intro _) | (refine sy_alloc rfl rfl rfl ?_; intro _)))
    refine sy_ov (ov_callE [vecE g q2 l] rfl (sd (sd (sd (sd (sd sr))))) (rc_peek g q2 l c hl hc)) rfl rfl ?_
    repeat (first | refine sy_k rfl rfl ?_ | (refine gO ?_; first | refine sy_ov (ov_p rfl) rfl rfl ?_ | (refine gL ?_; first | refine sy_ov (ov_ld 2 rfl rfl rfl) rfl rfl ?_ | refine sy_ov (ov_ld 3 rfl rfl rfl) rfl rfl ?_) | (refine gS ?_; refine sy_store 0 rfl rfl rfl rfl rfl rfl rfl rfl ?_) | refine sy_ov (ov_fieldAddr rfl rfl rfl) rfl rfl ?_ | (refine sy_alloc rfl rfl rfl ?_; intro _)) | (refine sy_cond_t rfl ?_ ?_; focus (first | with_reducible rfl | assumption | omega | (simp <;> first | omega | assumption))) | (refine sy_cond_f rfl ?_ ?_; focus (first | with_reducible rfl | assumption | omega | (simp <;> first | omega | assumption))))
    refine sy_ov (ov_callE [vecE g q2 l] rfl (by repeat first | exact sr | apply sd) (ht)) rfl rfl ?_
    repeat (first | refine sy_k rfl rfl ?_ | (refine gO ?_; first | refine sy_ov (ov_p rfl) rfl rfl ?_ | (refine gG ?_; (refine sy_guard_no rfl rfl rfl rfl rfl ?_ ?_; focus (first | with_reducible rfl | assumption | omega | (simp <;> first | omega | assumption)))) | (refine gL ?_; refine sy_ov (ov_ld 3 rfl rfl rfl) rfl rfl ?_) | (refine gS ?_; refine sy_store 0 rfl rfl rfl rfl rfl rfl rfl rfl ?_) | refine sy_ov (ov_pick rfl rfl rfl) rfl rfl ?_ | refine sy_ov (ov_fieldAddr rfl rfl rfl) rfl rfl ?_ | (refine sy_alloc rfl rfl rfl ?_; intro _)))
    refine sy_front 6 rfl rfl ?_
    simp only [List.set_cons_zero, List.set_cons_succ, List.eraseIdx_cons_succ, List.eraseIdx_cons_zero]
    refine sy_front 6 rfl rfl ?_
    simp only [List.set_cons_zero, List.set_cons_succ, List.eraseIdx_cons_succ, List.eraseIdx_cons_zero]
    refine sy_callE (curE b p q l c) rfl rfl rfl (hn) ?_
    rintro _ _ ⟨rfl, rfl⟩
    simp only [curE, List.cons_append, List.nil_append]
    repeat (first | refine sy_k rfl rfl ?_ | (refine gO ?_; first | refine sy_ov (ov_p rfl) rfl rfl ?_ | (refine gS ?_; refine sy_store 0 rfl rfl rfl rfl rfl rfl rfl rfl ?_) | (refine sy_alloc rfl rfl rfl ?_; intro _)))
    refine sy_drawE _ 22 [(0, false), (1, false), (2, false), (3, false), (4, false), (5, false), (6, false), (7, false), (8, false), (9, false), (10, false), (11, false), (12, false), (13, false), (14, false), (15, false), (16, false), (17, false), (18, false), (19, false), (20, false), (21, true)] (by kernel_rfl) rfl (sk (sk (sk (sk (sk (sd sr)))))) ?_
    repeat (first | refine dre_rd (fun _ _ => ov_p rfl) rfl ?_ | refine dre_rd (fun _ _ => ov_eqb rfl rfl) rfl ?_ | refine dre_rd (fun _ _ => ov_ld 3 rfl rfl rfl) rfl ?_ | (refine dre_yes rfl rfl rfl rfl ?_ (fun _ _ => ov_p rfl) ?_; focus (first | with_reducible rfl | assumption | omega | (simp <;> first | omega | assumption))) | (refine dre_yes rfl rfl rfl rfl ?_ (fun _ _ => ov_ld 0 rfl rfl rfl) ?_; focus (first | with_reducible rfl | assumption | omega | (simp <;> first | omega | assumption))) | (refine dre_yes rfl rfl rfl rfl ?_ (fun _ _ => ov_build rfl rfl rfl) ?_; focus (first | with_reducible rfl | assumption | omega | (simp <;> first | omega | assumption))) | (refine dre_yes rfl rfl rfl rfl ?_ (fun _ _ => ov_pick_f rfl rfl ?_) ?_; (focus (first | with_reducible rfl | assumption | omega | (simp <;> first | omega | assumption))); focus (first | with_reducible rfl | assumption | omega | (simp <;> first | omega | assumption))) | (refine dre_no rfl rfl rfl rfl ?_ ?_; focus (first | with_reducible rfl | assumption | omega | (simp <;> first | omega | assumption))))
    refine dre_yes rfl rfl rfl rfl ?_ (fun _ _ => ov_eqst (xs := tokV (ztk)) (ys := tokV (ztk)) rfl rfl rfl rfl) ?_
    focus (first | with_reducible rfl | (simp <;> first | omega | assumption))
    rw [eqL_tok]
    repeat (first | (refine dre_rd (fun _ _ => ov_pick_t rfl rfl ?_) rfl ?_; focus (first | with_reducible rfl | assumption | omega | (simp <;> first | omega | assumption))) | (refine dre_ef rfl ?_; refine sy_store 5 rfl rfl rfl rfl rfl rfl rfl rfl ?_; refine dre_ek (by first | exact sr | exact sk sr | (repeat first | exact sr | apply sk | apply sd)) ?_) | refine dre_end ?_ | (refine dre_yes rfl rfl rfl rfl ?_ (fun _ _ => ov_pick_t rfl rfl ?_) ?_; (focus (first | with_reducible rfl | assumption | omega | (simp <;> first | omega | assumption))); focus (first | with_reducible rfl | assumption | omega | (simp <;> first | omega | assumption))) | (refine dre_yes rfl rfl rfl rfl ?_ (fun _ _ => ov_pick_f rfl rfl ?_) ?_; (focus (first | with_reducible rfl | assumption | omega | (simp <;> first | omega | assumption))); focus (first | with_reducible rfl | assumption | omega | (simp <;> first | omega | assumption))))
    repeat (first | refine sy_k rfl rfl ?_ | (refine gO ?_; refine sy_ov (ov_p rfl) rfl rfl ?_) | refine sy_rt ?_)
    exact ret2ct 5 rfl rfl rfl rfl rfl rfl fun w' hw' => postE hw' _ (sub_self (by (try unfold curE); repeat first | exact sr | apply sk | apply sd)) rfl ⟨rfl, rfl⟩
/-- A call's cursor behind it. -/
def doesT (l : List TokT) (c : CurT) (x : OpT) : CurT :=
  if x.1 = 1 then nextT l c else if x.1 = 2 then goT l c (isT l c 4 x.2.2.2) else if x.1 = 3 then goT l c (isT l c 1 x.2.2.2) else if x.1 = 4 then goT l c (takT l c x.2.1) else if x.1 = 5 then needT l c x.2.2.2
  else if x.1 = 6 then failT l c x.2.1 else if x.1 = 7 then failAtT c x.2.1 x.2.2.1 else if x.1 = 8 then enterT l c else if x.1 = 9 then leaveT c else c
theorem doesT_ok {l : List TokT} {c : CurT} (x : OpT) (h : CurOk l c) (hl : TokOk l) : CurOk l (doesT l c x) := by
  unfold doesT
  repeat' split
  · exact h.next hl
  · exact h.go hl _
  · exact h.go hl _
  · exact h.go hl _
  · exact h.need hl _
  · exact h.fail _
  · exact h.failAt _ _
  · exact h.enter
  · exact h.leave
  · exact h
theorem does_c (b : Nat) (p : Option Addr) (q g q2 : Nat) (l : List TokT) (c : CurT) (hl : TokOk l) (hc : CurOk l c) (x : OpT) : DoesTo b p q g q2 l c x (doesT l c x) := by
  obtain ⟨k, n, a, s⟩ := x
  unfold doesT
  dsimp only
  by_cases h1 : k = 1
  · subst h1; exact does_1 b p q g q2 l c hl hc n a s
  by_cases h2 : k = 2
  · subst h2; exact does_2 b p q g q2 l c hl hc n a s
  by_cases h3 : k = 3
  · subst h3; exact does_3 b p q g q2 l c hl hc n a s
  by_cases h4 : k = 4
  · subst h4; exact does_4 b p q g q2 l c hl hc n a s
  by_cases h5 : k = 5
  · subst h5; exact does_5 b p q g q2 l c hl hc n a s
  by_cases h6 : k = 6
  · subst h6; exact does_6 b p q g q2 l c hl hc n a s
  by_cases h7 : k = 7
  · subst h7; exact does_7 b p q g q2 l c hl hc n a s
  by_cases h8 : k = 8
  · subst h8; exact does_8 b p q g q2 l c hl hc n a s
  by_cases h9 : k = 9
  · subst h9; exact does_9 b p q g q2 l c hl hc n a s
  rw [if_neg h1, if_neg h2, if_neg h3, if_neg h4, if_neg h5, if_neg h6, if_neg h7, if_neg h8, if_neg h9]
  exact does_0 b p q g q2 l c hl hc k n a s h1 h2 h3 h4 h5 h6 h7 h8 h9
end Go.Proofs.Yteiejcililponaa
