/- The walk of blindfoldlaw09.PathsBack. -/
import Derived.Test.YteddjadeenimkaaPaths7Q
import Derived.Test.YteddjadeenimkaaWalkPathsReadsQ
set_option linter.unusedVariables false
set_option linter.unusedSimpArgs false
namespace Go.Proofs.Yteddjadeenimkaa
open Go.RowKit Bf
theorem eqf_no (e a : Int) (h : e ≠ 0) : eqL [.int .i64 e, .int .i64 a] [.int .i64 0, .int .i64 0] = false := by simp [eqL, eqC, h]
set_option maxRecDepth 20000 in
set_option maxHeartbeats 8000000 in
theorem pathsBack_walk (w : World) (p : Option Addr) (n c : Nat) (l : List StepT) (hl : l.length = n) (hnc : n ≤ c) (hc : c ≤ maxLen) (hs : IsSl w 3 p n (l.flatMap stpV)) (ho : ∀ y ∈ l, StepOk y) (s : ByteArray) (hs0 : s.size ≤ 140737488351232) :
    Calls Try.prog 9 #[.slice p n c, .string s] w fun e w' => e = .returned (.bool true) ∧ Below w.heap.size w w' := by
  obtain ⟨⟨q⟩⟩ := s
  have hq : q.length ≤ 140737488351232 := hs0
  have hc' : c ≤ 9223372036854775807 := hc
  subst hl
  have hst : St (fun _ => False) w (fun w => IsSl w 3 p l.length (l.flatMap stpV)) := St.start (IsSl.bl _ _ _ _) hs
  by_cases h1 : 1000 < q.length
  · refine sy_enter rfl rfl ?_
    simp only [initFr]
    repeat (first | refine sy_k rfl rfl ?_ | (refine gO ?_; first | refine sy_ov (ov_p rfl) rfl rfl ?_ | (refine gK ?_; refine sy_ov (ov_len rfl) rfl rfl ?_)) | (refine sy_cond_t rfl ?_ ?_; focus (first | with_reducible rfl | assumption | omega | (simp <;> first | omega | assumption))))
    refine sy_ov (ov_call rfl (fun w _ => lives09_c w)) rfl rfl ?_
    repeat (first | refine sy_k rfl rfl ?_ | (refine gO ?_; refine sy_ov (ov_p rfl) rfl rfl ?_) | refine sy_rt ?_)
    exact ret1 rfl rfl rfl
  · obtain ⟨L, e, a, hL⟩ : ∃ L e a, pathL 0 q = (L, e, a) := ⟨_, _, _, rfl⟩
    have hLn := pathL_bd q hL
    by_cases h64 : 64 < l.length
    · refine sy_enter rfl rfl ?_
      simp only [initFr]
      repeat (first | refine sy_k rfl rfl ?_ | (refine gO ?_; first | refine sy_ov (ov_p rfl) rfl rfl ?_ | (refine gK ?_; refine sy_ov (ov_len rfl) rfl rfl ?_)) | (refine sy_cond_f rfl ?_ ?_; focus (first | with_reducible rfl | assumption | omega | (simp <;> first | omega | assumption))))
      refine sy_ov (ov_call rfl (fun w _ => pright_big w p l.length c h64 (by omega))) rfl rfl ?_
      repeat (first | refine sy_k rfl rfl ?_ | (refine gO ?_; refine sy_ov (ov_p rfl) rfl rfl ?_) | (refine sy_cond_f rfl ?_ ?_; focus (first | with_reducible rfl | assumption | omega | (simp <;> first | omega | assumption))))
      rcases Classical.em (e = 0) with he | he
      all_goals skip
      · subst he
        obtain ⟨rfl, hB, hF, hO⟩ := back_path hL
        refine sy_calln rfl rfl (fun w _ => pparse_c q (by omega) w) ?_
        rintro _ _ ⟨p2, q2, rfl, rfl⟩
        rw [hL]
        dsimp only
        repeat (first | refine sy_k rfl rfl ?_ | (refine gO ?_; first | refine sy_ov (ov_p rfl) rfl rfl ?_ | (refine gL ?_; refine sy_ov (ov_ld 0 rfl rfl rfl) rfl rfl ?_) | (refine gS ?_; refine sy_store 0 rfl rfl rfl rfl rfl rfl rfl rfl ?_) | refine sy_ov (ov_build rfl rfl rfl) rfl rfl ?_ | (refine sy_alloc rfl rfl rfl ?_; intro _)))
        refine sy_ov (ov_nest (xs := [.int .i64 0, .int .i64 0]) (ys := [.int .i64 0, .int .i64 0]) rfl rfl rfl rfl) rfl rfl ?_
        rw [eqf_self]
        repeat ((refine gO ?_; first | refine sy_ov (ov_p rfl) rfl rfl ?_ | (refine gG ?_; (refine sy_guard_yes rfl rfl rfl rfl rfl ?_ ?_; focus (first | with_reducible rfl | assumption | omega | (simp <;> first | omega | assumption))))))
        have hR : ∀ w p c, IsSl w 3 p L.length (L.flatMap stpV) → Calls Try.prog 32 #[.slice p L.length c] w fun e w' => e = .returned (.bool true) ∧ Below w.heap.size w w' := fun w p c hs => by
          have := pright_c w p L.length c L rfl (by omega) hs hO
          rw [hB] at this; exact this
        refine sy_ov (ov_call rfl (fun w hw => hR w _ _ (vec_isSl hw (i := 1) rfl))) rfl rfl ?_
        repeat ((refine gO ?_; first | refine sy_ov (ov_p rfl) rfl rfl ?_ | (refine gG ?_; (refine sy_guard_yes rfl rfl rfl rfl rfl ?_ ?_; focus (first | with_reducible rfl | assumption | omega | (simp <;> first | omega | assumption))))))
        refine sy_ov (ov_call rfl (fun w hw => pformat_c w _ L.length _ L rfl (by omega) (vec_isSl hw (i := 1) rfl) hO q (by rw [hB, if_pos rfl]; exact hF))) rfl rfl ?_
        repeat ((refine gO ?_; first | refine sy_ov (ov_p rfl) rfl rfl ?_ | (refine gG ?_; (refine sy_guard_yes rfl rfl rfl rfl rfl ?_ ?_; focus (first | with_reducible rfl | assumption | omega | (simp <;> first | omega | assumption)))) | (refine sy_ov (ov_pick_t rfl rfl ?_) rfl rfl ?_; focus (with_reducible rfl)) | (refine sy_ov (ov_pick_f rfl rfl ?_) rfl rfl ?_; focus (with_reducible rfl))))
        refine sy_ov (ov_call rfl (fun w _ => lives09_c w)) rfl rfl ?_
        repeat (first | refine sy_k rfl rfl ?_ | (refine gO ?_; first | refine sy_ov (ov_p rfl) rfl rfl ?_ | (refine sy_ov (ov_pick_t rfl rfl ?_) rfl rfl ?_; focus (with_reducible rfl))) | refine sy_rt ?_)
        exact ret1 rfl rfl rfl
      · refine sy_calln rfl rfl (fun w _ => pparse_c q (by omega) w) ?_
        rintro _ _ ⟨p2, q2, rfl, rfl⟩
        rw [hL]
        dsimp only
        repeat (first | refine sy_k rfl rfl ?_ | (refine gO ?_; first | refine sy_ov (ov_p rfl) rfl rfl ?_ | (refine gL ?_; refine sy_ov (ov_ld 0 rfl rfl rfl) rfl rfl ?_) | (refine gS ?_; refine sy_store 0 rfl rfl rfl rfl rfl rfl rfl rfl ?_) | refine sy_ov (ov_build rfl rfl rfl) rfl rfl ?_ | (refine sy_alloc rfl rfl rfl ?_; intro _)))
        refine sy_ov (ov_nest (xs := [.int .i64 e, .int .i64 a]) (ys := [.int .i64 0, .int .i64 0]) rfl rfl rfl rfl) rfl rfl ?_
        rw [eqf_no e a he]
        repeat ((refine gO ?_; first | refine sy_ov (ov_p rfl) rfl rfl ?_ | (refine gG ?_; first | refine sy_guard_undef rfl rfl rfl rfl rfl ?_ | (refine sy_guard_yes rfl rfl rfl rfl rfl ?_ ?_; focus (first | with_reducible rfl | assumption | omega | (simp <;> first | omega | assumption))) | (refine sy_guard_no rfl rfl rfl rfl rfl ?_ ?_; focus (first | with_reducible rfl | assumption | omega | (simp <;> first | omega | assumption)))) | refine sy_ov (ov_pick rfl rfl rfl) rfl rfl ?_))
        refine sy_ov (ov_call rfl (fun w _ => lives09_c w)) rfl rfl ?_
        repeat (first | refine sy_k rfl rfl ?_ | (refine gO ?_; first | refine sy_ov (ov_p rfl) rfl rfl ?_ | (refine sy_ov (ov_pick_t rfl rfl ?_) rfl rfl ?_; focus (with_reducible rfl))) | refine sy_rt ?_)
        exact ret1 rfl rfl rfl
    · by_cases hx : pathB l = true
      · obtain ⟨hpb, hfl⟩ := path_back hx ho
        have hR : ∀ w p c, IsSl w 3 p l.length (l.flatMap stpV) → Calls Try.prog 32 #[.slice p l.length c] w fun e w' => e = .returned (.bool true) ∧ Below w.heap.size w w' := fun w p c hs => by
          have := pright_c w p l.length c l rfl (by omega) hs ho
          rw [hx] at this; exact this
        have hF : ∀ w p c, IsSl w 3 p l.length (l.flatMap stpV) → Calls Try.prog 34 #[.slice p l.length c] w fun e w' => e = .returned (S (fmtL l)) ∧ Below w.heap.size w w' := fun w p c hs =>
          pformat_c w p l.length c l rfl (by omega) hs ho (fmtL l) (by rw [hx, if_pos rfl])
        have hS : ∀ w p c p' c', IsSl w 3 p l.length (l.flatMap stpV) → IsSl w 3 p' l.length (l.flatMap stpV) → Calls Try.prog 31 #[.slice p l.length c, .slice p' l.length c'] w fun e w' => e = .returned (.bool true) ∧ Below w.heap.size w w' := fun w p c p' c' h1 h2 =>
          rpsame_t w p l.length c l rfl (by omega) h1 p' c' h2
        have hM : ∀ w p c, IsSl w 3 p l.length (l.flatMap stpV) → Calls Try.prog 52 #[.slice p l.length c, .slice p l.length c] w fun e w' => e = .returned (.bool true) ∧ Below w.heap.size w w' := fun w p c h1 =>
          pmatch_t w p l.length c l rfl (by omega) h1
        have hC : ∀ w p c p' c', IsSl w 3 p l.length (l.flatMap stpV) → IsSl w 3 p' l.length (l.flatMap stpV) → Calls Try.prog 53 #[.slice p l.length c, .slice p' l.length c'] w fun e w' => e = .returned (.int .i64 0) ∧ Below w.heap.size w w' := fun w p c p' c' h1 h2 =>
          pcompare_t w p l.length c l rfl (by omega) h1 p' c' h2
        have hG : ∀ w p c n' c', IsSl w 3 p l.length (l.flatMap stpV) → n' ≤ l.length → Calls Try.prog 54 #[.slice p l.length c, .slice p n' c'] w fun e w' => e = .returned (.bool true) ∧ Below w.heap.size w w' := fun w p c n' c' h1 h2 =>
          pbegins_t w p l.length c l rfl (by omega) h1 n' c' h2
        refine sy_enter rfl rfl ?_
        simp only [initFr]
        repeat (first | refine sy_k rfl rfl ?_ | (refine gO ?_; first | refine sy_ov (ov_p rfl) rfl rfl ?_ | (refine gK ?_; refine sy_ov (ov_len rfl) rfl rfl ?_)) | (refine sy_cond_f rfl ?_ ?_; focus (first | with_reducible rfl | assumption | omega | (simp <;> first | omega | assumption))))
        refine sy_ov (ov_call rfl (fun w hw => hR w p c (hst.at hw))) rfl rfl ?_
        repeat (first | refine sy_k rfl rfl ?_ | (refine gO ?_; refine sy_ov (ov_p rfl) rfl rfl ?_) | (refine sy_cond_t rfl ?_ ?_; focus (first | with_reducible rfl | assumption | omega | (simp <;> first | omega | assumption))))
        refine sy_ov (ov_call rfl (fun w hw => hF w p c (hst.at hw))) rfl rfl ?_
        skip
        refine sy_calln rfl rfl (fun w _ => pparse_c (fmtL l) (by omega) w) ?_
        rintro _ _ ⟨p1, q1, rfl, rfl⟩
        rw [hpb]
        dsimp only
        repeat (first | refine sy_k rfl rfl ?_ | (refine gO ?_; first | refine sy_ov (ov_p rfl) rfl rfl ?_ | (refine gL ?_; refine sy_ov (ov_ld 0 rfl rfl rfl) rfl rfl ?_) | (refine gS ?_; refine sy_store 0 rfl rfl rfl rfl rfl rfl rfl rfl ?_) | refine sy_ov (ov_build rfl rfl rfl) rfl rfl ?_ | (refine sy_alloc rfl rfl rfl ?_; intro _)))
        refine sy_ov (ov_nest (xs := [.int .i64 0, .int .i64 0]) (ys := [.int .i64 0, .int .i64 0]) rfl rfl rfl rfl) rfl rfl ?_
        rw [eqf_self]
        repeat ((refine gO ?_; first | refine sy_ov (ov_p rfl) rfl rfl ?_ | (refine gG ?_; (refine sy_guard_yes rfl rfl rfl rfl rfl ?_ ?_; focus (first | with_reducible rfl | assumption | omega | (simp <;> first | omega | assumption))))))
        refine sy_ov (ov_call rfl (fun w hw => hS w _ _ _ _ (vec_isSl hw (i := 1) rfl) (hst.at hw))) rfl rfl ?_
        repeat ((refine gO ?_; first | refine sy_ov (ov_p rfl) rfl rfl ?_ | (refine gG ?_; (refine sy_guard_yes rfl rfl rfl rfl rfl ?_ ?_; focus (first | with_reducible rfl | assumption | omega | (simp <;> first | omega | assumption)))) | (refine sy_ov (ov_pick_f rfl rfl ?_) rfl rfl ?_; focus (with_reducible rfl))))
        refine sy_ov (ov_call rfl (fun w hw => hM w _ _ (hst.at hw))) rfl rfl ?_
        repeat ((refine gO ?_; first | refine sy_ov (ov_p rfl) rfl rfl ?_ | (refine gG ?_; (refine sy_guard_yes rfl rfl rfl rfl rfl ?_ ?_; focus (first | with_reducible rfl | assumption | omega | (simp <;> first | omega | assumption)))) | (refine sy_ov (ov_pick_f rfl rfl ?_) rfl rfl ?_; focus (with_reducible rfl))))
        refine sy_ov (ov_call rfl (fun w hw => hC w _ _ _ _ (hst.at hw) (vec_isSl hw (i := 1) rfl))) rfl rfl ?_
        repeat ((refine gO ?_; first | refine sy_ov (ov_p rfl) rfl rfl ?_ | (refine gG ?_; (refine sy_guard_yes rfl rfl rfl rfl rfl ?_ ?_; focus (first | with_reducible rfl | assumption | omega | (simp <;> first | omega | assumption)))) | (refine gB ?_; (refine sy_ov (ov_quok rfl rfl ?_ ?_ ?_) rfl rfl ?_; omega; omega; omega)) | (refine gK ?_; refine sy_ov (ov_lens rfl) rfl rfl ?_) | (refine sy_ov (ov_pick_f rfl rfl ?_) rfl rfl ?_; focus (with_reducible rfl))))
        refine sy_ov (ov_slHi rfl rfl ?_ ?_) rfl rfl ?_
        focus omega
        focus omega
        repeat ((refine gO ?_; (refine gG ?_; (refine sy_guard_yes rfl rfl rfl rfl rfl ?_ ?_; focus (first | with_reducible rfl | assumption | omega | (simp <;> first | omega | assumption))))))
        refine sy_ov (ov_call rfl (fun w hw => hG w _ _ _ _ (hst.at hw) (by omega))) rfl rfl ?_
        repeat (first | refine sy_k rfl rfl ?_ | (refine gO ?_; first | refine sy_ov (ov_p rfl) rfl rfl ?_ | (refine gG ?_; (refine sy_guard_yes rfl rfl rfl rfl rfl ?_ ?_; focus (first | with_reducible rfl | assumption | omega | (simp <;> first | omega | assumption)))) | (refine sy_ov (ov_pick_f rfl rfl ?_) rfl rfl ?_; focus (with_reducible rfl))) | (refine sy_cond_f rfl ?_ ?_; focus (first | with_reducible rfl | assumption | omega | (simp <;> first | omega | assumption))))
        rcases Classical.em (e = 0) with he | he
        all_goals skip
        · subst he
          obtain ⟨rfl, hB, hF, hO⟩ := back_path hL
          refine sy_calln rfl rfl (fun w _ => pparse_c q (by omega) w) ?_
          rintro _ _ ⟨p2, q2, rfl, rfl⟩
          rw [hL]
          dsimp only
          repeat (first | refine sy_k rfl rfl ?_ | (refine gO ?_; first | refine sy_ov (ov_p rfl) rfl rfl ?_ | (refine gL ?_; refine sy_ov (ov_ld 0 rfl rfl rfl) rfl rfl ?_) | (refine gS ?_; refine sy_store 0 rfl rfl rfl rfl rfl rfl rfl rfl ?_) | refine sy_ov (ov_build rfl rfl rfl) rfl rfl ?_ | (refine sy_alloc rfl rfl rfl ?_; intro _)))
          refine sy_ov (ov_nest (xs := [.int .i64 0, .int .i64 0]) (ys := [.int .i64 0, .int .i64 0]) rfl rfl rfl rfl) rfl rfl ?_
          rw [eqf_self]
          repeat ((refine gO ?_; first | refine sy_ov (ov_p rfl) rfl rfl ?_ | (refine gG ?_; (refine sy_guard_yes rfl rfl rfl rfl rfl ?_ ?_; focus (first | with_reducible rfl | assumption | omega | (simp <;> first | omega | assumption))))))
          have hR : ∀ w p c, IsSl w 3 p L.length (L.flatMap stpV) → Calls Try.prog 32 #[.slice p L.length c] w fun e w' => e = .returned (.bool true) ∧ Below w.heap.size w w' := fun w p c hs => by
            have := pright_c w p L.length c L rfl (by omega) hs hO
            rw [hB] at this; exact this
          refine sy_ov (ov_call rfl (fun w hw => hR w _ _ (vec_isSl hw (i := 1) rfl))) rfl rfl ?_
          repeat ((refine gO ?_; first | refine sy_ov (ov_p rfl) rfl rfl ?_ | (refine gG ?_; (refine sy_guard_yes rfl rfl rfl rfl rfl ?_ ?_; focus (first | with_reducible rfl | assumption | omega | (simp <;> first | omega | assumption))))))
          refine sy_ov (ov_call rfl (fun w hw => pformat_c w _ L.length _ L rfl (by omega) (vec_isSl hw (i := 1) rfl) hO q (by rw [hB, if_pos rfl]; exact hF))) rfl rfl ?_
          repeat ((refine gO ?_; first | refine sy_ov (ov_p rfl) rfl rfl ?_ | (refine gG ?_; (refine sy_guard_yes rfl rfl rfl rfl rfl ?_ ?_; focus (first | with_reducible rfl | assumption | omega | (simp <;> first | omega | assumption)))) | (refine sy_ov (ov_pick_t rfl rfl ?_) rfl rfl ?_; focus (with_reducible rfl)) | (refine sy_ov (ov_pick_f rfl rfl ?_) rfl rfl ?_; focus (with_reducible rfl))))
          refine sy_ov (ov_call rfl (fun w _ => lives09_c w)) rfl rfl ?_
          repeat (first | refine sy_k rfl rfl ?_ | (refine gO ?_; first | refine sy_ov (ov_p rfl) rfl rfl ?_ | (refine sy_ov (ov_pick_t rfl rfl ?_) rfl rfl ?_; focus (with_reducible rfl))) | refine sy_rt ?_)
          exact ret1 rfl rfl rfl
        · refine sy_calln rfl rfl (fun w _ => pparse_c q (by omega) w) ?_
          rintro _ _ ⟨p2, q2, rfl, rfl⟩
          rw [hL]
          dsimp only
          repeat (first | refine sy_k rfl rfl ?_ | (refine gO ?_; first | refine sy_ov (ov_p rfl) rfl rfl ?_ | (refine gL ?_; refine sy_ov (ov_ld 0 rfl rfl rfl) rfl rfl ?_) | (refine gS ?_; refine sy_store 0 rfl rfl rfl rfl rfl rfl rfl rfl ?_) | refine sy_ov (ov_build rfl rfl rfl) rfl rfl ?_ | (refine sy_alloc rfl rfl rfl ?_; intro _)))
          refine sy_ov (ov_nest (xs := [.int .i64 e, .int .i64 a]) (ys := [.int .i64 0, .int .i64 0]) rfl rfl rfl rfl) rfl rfl ?_
          rw [eqf_no e a he]
          repeat ((refine gO ?_; first | refine sy_ov (ov_p rfl) rfl rfl ?_ | (refine gG ?_; first | refine sy_guard_undef rfl rfl rfl rfl rfl ?_ | (refine sy_guard_yes rfl rfl rfl rfl rfl ?_ ?_; focus (first | with_reducible rfl | assumption | omega | (simp <;> first | omega | assumption))) | (refine sy_guard_no rfl rfl rfl rfl rfl ?_ ?_; focus (first | with_reducible rfl | assumption | omega | (simp <;> first | omega | assumption)))) | refine sy_ov (ov_pick rfl rfl rfl) rfl rfl ?_))
          refine sy_ov (ov_call rfl (fun w _ => lives09_c w)) rfl rfl ?_
          repeat (first | refine sy_k rfl rfl ?_ | (refine gO ?_; first | refine sy_ov (ov_p rfl) rfl rfl ?_ | (refine sy_ov (ov_pick_t rfl rfl ?_) rfl rfl ?_; focus (with_reducible rfl))) | refine sy_rt ?_)
          exact ret1 rfl rfl rfl
      · have hx : pathB l = false := by simpa using hx
        have hR : ∀ w p c, IsSl w 3 p l.length (l.flatMap stpV) → Calls Try.prog 32 #[.slice p l.length c] w fun e w' => e = .returned (.bool false) ∧ Below w.heap.size w w' := fun w p c hs => by
          have := pright_c w p l.length c l rfl (by omega) hs ho
          rw [hx] at this; exact this
        refine sy_enter rfl rfl ?_
        simp only [initFr]
        repeat (first | refine sy_k rfl rfl ?_ | (refine gO ?_; first | refine sy_ov (ov_p rfl) rfl rfl ?_ | (refine gK ?_; refine sy_ov (ov_len rfl) rfl rfl ?_)) | (refine sy_cond_f rfl ?_ ?_; focus (first | with_reducible rfl | assumption | omega | (simp <;> first | omega | assumption))))
        refine sy_ov (ov_call rfl (fun w hw => hR w p c (hst.at hw))) rfl rfl ?_
        repeat (first | refine sy_k rfl rfl ?_ | (refine gO ?_; refine sy_ov (ov_p rfl) rfl rfl ?_) | (refine sy_cond_f rfl ?_ ?_; focus (first | with_reducible rfl | assumption | omega | (simp <;> first | omega | assumption))))
        rcases Classical.em (e = 0) with he | he
        all_goals skip
        · subst he
          obtain ⟨rfl, hB, hF, hO⟩ := back_path hL
          refine sy_calln rfl rfl (fun w _ => pparse_c q (by omega) w) ?_
          rintro _ _ ⟨p2, q2, rfl, rfl⟩
          rw [hL]
          dsimp only
          repeat (first | refine sy_k rfl rfl ?_ | (refine gO ?_; first | refine sy_ov (ov_p rfl) rfl rfl ?_ | (refine gL ?_; refine sy_ov (ov_ld 0 rfl rfl rfl) rfl rfl ?_) | (refine gS ?_; refine sy_store 0 rfl rfl rfl rfl rfl rfl rfl rfl ?_) | refine sy_ov (ov_build rfl rfl rfl) rfl rfl ?_ | (refine sy_alloc rfl rfl rfl ?_; intro _)))
          refine sy_ov (ov_nest (xs := [.int .i64 0, .int .i64 0]) (ys := [.int .i64 0, .int .i64 0]) rfl rfl rfl rfl) rfl rfl ?_
          rw [eqf_self]
          repeat ((refine gO ?_; first | refine sy_ov (ov_p rfl) rfl rfl ?_ | (refine gG ?_; (refine sy_guard_yes rfl rfl rfl rfl rfl ?_ ?_; focus (first | with_reducible rfl | assumption | omega | (simp <;> first | omega | assumption))))))
          have hR : ∀ w p c, IsSl w 3 p L.length (L.flatMap stpV) → Calls Try.prog 32 #[.slice p L.length c] w fun e w' => e = .returned (.bool true) ∧ Below w.heap.size w w' := fun w p c hs => by
            have := pright_c w p L.length c L rfl (by omega) hs hO
            rw [hB] at this; exact this
          refine sy_ov (ov_call rfl (fun w hw => hR w _ _ (vec_isSl hw (i := 1) rfl))) rfl rfl ?_
          repeat ((refine gO ?_; first | refine sy_ov (ov_p rfl) rfl rfl ?_ | (refine gG ?_; (refine sy_guard_yes rfl rfl rfl rfl rfl ?_ ?_; focus (first | with_reducible rfl | assumption | omega | (simp <;> first | omega | assumption))))))
          refine sy_ov (ov_call rfl (fun w hw => pformat_c w _ L.length _ L rfl (by omega) (vec_isSl hw (i := 1) rfl) hO q (by rw [hB, if_pos rfl]; exact hF))) rfl rfl ?_
          repeat ((refine gO ?_; first | refine sy_ov (ov_p rfl) rfl rfl ?_ | (refine gG ?_; (refine sy_guard_yes rfl rfl rfl rfl rfl ?_ ?_; focus (first | with_reducible rfl | assumption | omega | (simp <;> first | omega | assumption)))) | (refine sy_ov (ov_pick_t rfl rfl ?_) rfl rfl ?_; focus (with_reducible rfl)) | (refine sy_ov (ov_pick_f rfl rfl ?_) rfl rfl ?_; focus (with_reducible rfl))))
          refine sy_ov (ov_call rfl (fun w _ => lives09_c w)) rfl rfl ?_
          repeat (first | refine sy_k rfl rfl ?_ | (refine gO ?_; first | refine sy_ov (ov_p rfl) rfl rfl ?_ | (refine sy_ov (ov_pick_t rfl rfl ?_) rfl rfl ?_; focus (with_reducible rfl))) | refine sy_rt ?_)
          exact ret1 rfl rfl rfl
        · refine sy_calln rfl rfl (fun w _ => pparse_c q (by omega) w) ?_
          rintro _ _ ⟨p2, q2, rfl, rfl⟩
          rw [hL]
          dsimp only
          repeat (first | refine sy_k rfl rfl ?_ | (refine gO ?_; first | refine sy_ov (ov_p rfl) rfl rfl ?_ | (refine gL ?_; refine sy_ov (ov_ld 0 rfl rfl rfl) rfl rfl ?_) | (refine gS ?_; refine sy_store 0 rfl rfl rfl rfl rfl rfl rfl rfl ?_) | refine sy_ov (ov_build rfl rfl rfl) rfl rfl ?_ | (refine sy_alloc rfl rfl rfl ?_; intro _)))
          refine sy_ov (ov_nest (xs := [.int .i64 e, .int .i64 a]) (ys := [.int .i64 0, .int .i64 0]) rfl rfl rfl rfl) rfl rfl ?_
          rw [eqf_no e a he]
          repeat ((refine gO ?_; first | refine sy_ov (ov_p rfl) rfl rfl ?_ | (refine gG ?_; first | refine sy_guard_undef rfl rfl rfl rfl rfl ?_ | (refine sy_guard_yes rfl rfl rfl rfl rfl ?_ ?_; focus (first | with_reducible rfl | assumption | omega | (simp <;> first | omega | assumption))) | (refine sy_guard_no rfl rfl rfl rfl rfl ?_ ?_; focus (first | with_reducible rfl | assumption | omega | (simp <;> first | omega | assumption)))) | refine sy_ov (ov_pick rfl rfl rfl) rfl rfl ?_))
          refine sy_ov (ov_call rfl (fun w _ => lives09_c w)) rfl rfl ?_
          repeat (first | refine sy_k rfl rfl ?_ | (refine gO ?_; first | refine sy_ov (ov_p rfl) rfl rfl ?_ | (refine sy_ov (ov_pick_t rfl rfl ?_) rfl rfl ?_; focus (with_reducible rfl))) | refine sy_rt ?_)
          exact ret1 rfl rfl rfl
end Go.Proofs.Yteddjadeenimkaa
