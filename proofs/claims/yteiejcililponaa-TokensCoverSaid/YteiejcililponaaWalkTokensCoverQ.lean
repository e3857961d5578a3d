/- The walk of blindfoldlaw13.TokensCover. -/
import Derived.Test.YteiejcililponaaWalkTokensQ
import Derived.Test.YteiejcililponaaBPU
import Derived.Test.YteiejcililponaaBCX
import Derived.Test.YteiejcililponaaBRC
set_option linter.unusedVariables false
set_option linter.unusedSimpArgs false

namespace Go.Proofs.Yteiejcililponaa
open Go.RowKit Bf
theorem scanR_end {q : List UInt8} (h : onlyEnd q) (hl : q.length ≤ 65536) : scanR q = ([(0, (q.length : Int), (q.length : Int), [], 0)], 0, 0) := by
  unfold scanR; rw [if_neg (by omega)]; exact h
theorem tokV_mk (k a b n : Int) (z : List UInt8) : tokV (k, a, b, z, n) = [.int .i64 k, .int .i64 a, .int .i64 b, S z, .int .i64 n] := rfl
theorem ts1 {q : List UInt8} (i j : Nat) (_ : i ≤ j) : S (List.take ((j : Int) - (i : Int)).toNat (List.drop (i : Int).toNat q)) = S ((q.drop i).take (j - i)) := by
  rw [show ((j : Int) - (i : Int)).toNat = j - i by omega, Int.toNat_natCast]
structure TcSt where
  i : Nat
  at_ : Nat
set_option maxRecDepth 20000 in
set_option maxHeartbeats 8000000 in
theorem tokensCover_walk (s : ByteArray) (hs0 : s.size ≤ 140737488351232) (w : World) :
    Calls Try.prog 8 #[.string s] w fun e w' => e = .returned (.bool true) ∧ Below w.heap.size w w' := by
  obtain ⟨⟨q⟩⟩ := s
  have hq : q.length ≤ 140737488351232 := hs0
  by_cases h1 : 1000 < q.length
  · refine sy_enter rfl rfl ?_
    simp only [initFr]
    repeat (first | refine sy_k rfl rfl ?_ | (refine gO ?_; first | refine sy_ov (ov_p rfl) rfl rfl ?_ | (refine gK ?_; refine sy_ov (ov_len rfl) rfl rfl ?_)) | (refine sy_cond_t rfl ?_ ?_; focus (first | with_reducible rfl | assumption | omega | (simp <;> first | omega | assumption))))
    refine sy_ov (ov_call rfl (fun w _ => lives13_c w)) rfl rfl ?_
    repeat (first | refine sy_k rfl rfl ?_ | (refine gO ?_; refine sy_ov (ov_p rfl) rfl rfl ?_) | refine sy_rt ?_)
    exact ret1 rfl rfl rfl
  · obtain ⟨L, e, a, hL⟩ : ∃ L e a, scanR q = (L, e, a) := ⟨_, _, _, rfl⟩
    have hLn := scanR_count q hL
    by_cases he : e = 0
    · subst he
      obtain ⟨rfl, hne, hcov, hah⟩ := scanR_cov (by omega) hL
      have hah := hah (by omega)
      have hpos : 0 < L.length := List.length_pos_iff.2 hne
      refine sy_enter rfl rfl ?_
      simp only [initFr]
      repeat (first | refine sy_k rfl rfl ?_ | (refine gO ?_; first | refine sy_ov (ov_p rfl) rfl rfl ?_ | (refine gK ?_; refine sy_ov (ov_len rfl) rfl rfl ?_)) | (refine sy_cond_f rfl ?_ ?_; focus (first | with_reducible rfl | assumption | omega | (simp <;> first | omega | assumption))))
      refine sy_calln rfl rfl (fun w _ => scan_c q (by omega) w) ?_
      rintro _ _ ⟨p1, q1, rfl, rfl⟩
      rw [hL]
      dsimp only
      repeat (first | refine sy_k rfl rfl ?_ | (refine gO ?_; first | refine sy_ov (ov_p rfl) rfl rfl ?_ | (refine gB ?_; (refine sy_ov (ov_cat rfl rfl ?_) rfl rfl ?_; focus (first | omega | (simp <;> omega)))) | (refine gL ?_; refine sy_ov (ov_ld 0 rfl rfl rfl) rfl rfl ?_) | (refine gS ?_; refine sy_store 0 rfl rfl rfl rfl rfl rfl rfl rfl ?_) | refine sy_ov (ov_fieldAddr rfl rfl rfl) rfl rfl ?_ | (refine sy_alloc rfl rfl rfl ?_; intro _)) | (refine sy_cond_f rfl ?_ ?_; focus (first | with_reducible rfl | assumption | omega | (simp <;> first | omega | assumption))))
      refine sy_calln rfl rfl (fun w _ => scan_c (32 :: q) (by simp only [List.length_cons]; omega) w) ?_
      rintro _ _ ⟨p2, q2, rfl, rfl⟩
      rw [hah]
      dsimp only
      rw [List.length_map]
      repeat (first | refine sy_k rfl rfl ?_ | (refine gO ?_; first | refine sy_ov (ov_p rfl) rfl rfl ?_ | (refine gG ?_; (refine sy_guard_yes rfl rfl rfl rfl rfl ?_ ?_; focus (first | with_reducible rfl | assumption | omega | (simp <;> first | omega | assumption)))) | (refine gK ?_; refine sy_ov (ov_lens rfl) rfl rfl ?_) | (refine gL ?_; refine sy_ov (ov_ld 0 rfl rfl rfl) rfl rfl ?_) | (refine gS ?_; refine sy_store 0 rfl rfl rfl rfl rfl rfl rfl rfl ?_) | (refine sy_ov (ov_pick_f rfl rfl ?_) rfl rfl ?_; focus (with_reducible rfl)) | refine sy_ov (ov_fieldAddr rfl rfl rfl) rfl rfl ?_ | (refine sy_alloc rfl rfl rfl ?_; intro _)) | (refine sy_cond_f rfl ?_ ?_; focus (first | with_reducible rfl | assumption | omega | (simp <;> first | omega | assumption))))
      refine sy_loop (α := TcSt) (fun x => [(0, S q), (3, .slice p1 L.length q1), (5, .slice p2 L.length q2), (7, .int .i64 x.at_), (8, .int .i64 x.i)]) (fun _ => [vec 64 5 (.slice p2 L.length q2) L.length ((L.map (shT 1)).flatMap tokV), vec 64 5 (.slice p1 L.length q1) L.length (L.flatMap tokV)]) (fun x => CovL q x.at_ (L.drop x.i) ∧ x.i ≤ L.length ∧ x.at_ ≤ q.length) (fun x => L.length - x.i) ⟨0, 0⟩ ⟨hcov, Nat.zero_le _, Nat.zero_le _⟩ ⟨⟨_, rfl, rfl⟩, ⟨_, rfl, rfl⟩, ⟨_, rfl, rfl⟩, ⟨_, rfl, rfl⟩, ⟨_, rfl, rfl⟩, trivial⟩ (sd (sk (sd (sk sr)))) ?_
      rintro ⟨i, at_⟩ ⟨hC, hi, hat⟩
      dsimp only at hC hi hat ⊢
      by_cases hlt : i < L.length
      · obtain ⟨⟨k, x, y, z, n⟩, ht, a, b, rfl, rfl, ha, hab, hb, hfin, hgap, hal, hnext⟩ := hC.at hlt
        have hm : (L.map (shT 1))[i]? = some (shT 1 (k, (a : Int), (b : Int), z, n)) := by rw [List.getElem?_map, ht]; rfl
        refine sy_vecAddr 1 rfl hpos ?_
        rintro g1 rfl
        refine sy_vecAddr 0 rfl hpos ?_
        rintro g2 rfl
        repeat (first | refine sy_k rfl rfl ?_ | (refine gO ?_; first | refine sy_ov (ov_p rfl) rfl rfl ?_ | (refine gK ?_; refine sy_ov (ov_lens rfl) rfl rfl ?_) | (refine sy_ov (ov_indexAddr rfl rfl ?_ ?_) rfl rfl ?_; omega; omega)) | (refine sy_cond_t rfl ?_ ?_; focus (first | with_reducible rfl | assumption | omega | (simp <;> first | omega | assumption))))
        refine sy_ov (ov_velem (f := tokV) (k := i) 1 rfl rfl rfl ht (fun _ => rfl)) rfl rfl ?_
        rw [tokV_mk]
        repeat (first | refine sy_k rfl rfl ?_ | (refine gO ?_; first | (refine gS ?_; refine sy_store 0 rfl rfl rfl rfl rfl rfl rfl rfl ?_) | (refine sy_alloc rfl rfl rfl ?_; intro _)))
        refine sy_draw 47 (by kernel_rfl) ?_
        repeat (first | (refine dr_op (ov_pick_f rfl rfl ?_) rfl rfl ?_; focus (first | with_reducible rfl | assumption | omega | (simp <;> first | omega | assumption))) | refine dr_op (ov_p rfl) rfl rfl ?_ | refine dr_op (ov_ld 0 rfl rfl rfl) rfl rfl ?_ | refine dr_op (ov_fieldAddr rfl rfl rfl) rfl rfl ?_ | (refine dr_yes rfl rfl rfl rfl ?_ (ov_p rfl) rfl ?_; focus (first | with_reducible rfl | assumption | omega | (simp <;> first | omega | assumption))) | (refine dr_yes rfl rfl rfl rfl ?_ (ov_ar rfl rfl rfl ?_ ?_) rfl ?_; (focus (first | with_reducible rfl | assumption | omega | (simp <;> first | omega | assumption))); omega; omega) | (refine dr_yes rfl rfl rfl rfl ?_ (ov_neb rfl rfl) rfl ?_; focus (first | with_reducible rfl | assumption | omega | (simp <;> first | omega | assumption))) | (refine dr_yes rfl rfl rfl rfl ?_ (ov_len rfl) rfl ?_; focus (first | with_reducible rfl | assumption | omega | (simp <;> first | omega | assumption))) | (refine dr_yes rfl rfl rfl rfl ?_ (ov_lens rfl) rfl ?_; focus (first | with_reducible rfl | assumption | omega | (simp <;> first | omega | assumption))) | (refine dr_yes rfl rfl rfl rfl ?_ (ov_ld 0 rfl rfl rfl) rfl ?_; focus (first | with_reducible rfl | assumption | omega | (simp <;> first | omega | assumption))) | (refine dr_yes rfl rfl rfl rfl ?_ (ov_fieldAddr rfl rfl rfl) rfl ?_; focus (first | with_reducible rfl | assumption | omega | (simp <;> first | omega | assumption))) | (refine dr_yes rfl rfl rfl rfl ?_ (ov_indexAddr rfl rfl ?_ ?_) rfl ?_; (focus (first | with_reducible rfl | assumption | omega | (simp <;> first | omega | assumption))); omega; omega))
        refine dr_yes rfl rfl rfl rfl ?_ (ov_velem (f := tokV) (k := i) 1 rfl rfl rfl hm (fun _ => rfl)) rfl ?_
        focus (simp <;> omega)
        repeat (first | refine dr_end ?_ | (refine dr_yes rfl rfl rfl rfl ?_ (ov_ar rfl rfl rfl ?_ ?_) rfl ?_; (focus (first | with_reducible rfl | assumption | omega | (simp <;> first | omega | assumption))); omega; omega) | (refine dr_yes rfl rfl rfl rfl ?_ (ov_ld 0 rfl rfl rfl) rfl ?_; focus (first | with_reducible rfl | assumption | omega | (simp <;> first | omega | assumption))) | (refine dr_yes rfl rfl rfl rfl ?_ (ov_fieldAddr rfl rfl rfl) rfl ?_; focus (first | with_reducible rfl | assumption | omega | (simp <;> first | omega | assumption))) | (refine dr_yes rfl rfl rfl rfl ?_ (ov_build rfl rfl rfl) rfl ?_; focus (first | with_reducible rfl | assumption | omega | (simp <;> first | omega | assumption))))
        simp only [List.drop_succ_cons, List.drop_zero]
        refine sy_guard_yes rfl rfl rfl rfl rfl ?_ ?_
        focus (first | with_reducible rfl | (simp <;> omega))
        refine sy_ov (ov_nest (xs := tokV (shT 1 (k, (a : Int), (b : Int), z, n))) (ys := tokV (shT 1 (k, (a : Int), (b : Int), z, n))) rfl rfl rfl rfl) rfl rfl ?_
        rw [eqL_tok]
        refine sy_ov (ov_pick_f rfl rfl ?_) rfl rfl ?_
        focus (simp <;> omega)
        repeat (first | refine sy_k rfl rfl ?_ | (refine gO ?_; first | refine sy_ov (ov_p rfl) rfl rfl ?_ | (refine gL ?_; refine sy_ov (ov_ld 0 rfl rfl rfl) rfl rfl ?_) | (refine gI ?_; (refine sy_ov (ov_slice rfl rfl rfl ?_ ?_ ?_) rfl rfl ?_; (focus (first | omega | (simp <;> omega))); (focus (first | omega | (simp <;> omega))); focus (first | omega | (simp <;> omega)))) | refine sy_ov (ov_fieldAddr rfl rfl rfl) rfl rfl ?_) | (refine sy_cond_f rfl ?_ ?_; focus (first | with_reducible rfl | assumption | omega | (simp <;> first | omega | assumption))))
        rw [ts1 at_ a ha]
        refine sy_calln rfl rfl (fun w _ => scan_c ((q.drop at_).take (a - at_)) (by simp only [List.length_take, List.length_drop]; omega) w) ?_
        rintro _ _ ⟨p3, q3, rfl, rfl⟩
        rw [scanR_end hgap (by simp only [List.length_take, List.length_drop]; omega)]
        dsimp only
        repeat (first | refine sy_k rfl rfl ?_ | (refine gO ?_; first | refine sy_ov (ov_p rfl) rfl rfl ?_ | (refine gL ?_; refine sy_ov (ov_ld 2 rfl rfl rfl) rfl rfl ?_) | (refine gS ?_; refine sy_store 0 rfl rfl rfl rfl rfl rfl rfl rfl ?_) | (refine gI ?_; (refine sy_ov (ov_slice rfl rfl rfl ?_ ?_ ?_) rfl rfl ?_; (focus (first | omega | (simp <;> omega))); (focus (first | omega | (simp <;> omega))); focus (first | omega | (simp <;> omega)))) | refine sy_ov (ov_fieldAddr rfl rfl rfl) rfl rfl ?_ | (refine sy_alloc rfl rfl rfl ?_; intro _)))
        rw [ts1 a b hab]
        rcases hal with ⟨hk0, hq0⟩ | ⟨hk0, ⟨ku, xu, yu, zu, nu⟩, hu, e1, e2, e3⟩
        · dsimp only at hk0
          subst hk0
          rw [hq0]
          refine sy_calln rfl rfl (fun w _ => scan_c [] (by decide) w) ?_
          rintro _ _ ⟨p4, q4, rfl, rfl⟩
          rw [scanR_end onlyEnd_nil (by decide)]
          dsimp only
          repeat (first | refine sy_k rfl rfl ?_ | (refine gO ?_; first | refine sy_ov (ov_p rfl) rfl rfl ?_ | (refine gS ?_; refine sy_store 0 rfl rfl rfl rfl rfl rfl rfl rfl ?_) | (refine sy_alloc rfl rfl rfl ?_; intro _)))
          refine sy_draw 50 (by kernel_rfl) ?_
          repeat (first | (refine dr_op (ov_pick_f rfl rfl ?_) rfl rfl ?_; focus (first | with_reducible rfl | assumption | omega | (simp <;> first | omega | assumption))) | refine dr_op (ov_p rfl) rfl rfl ?_ | refine dr_op (ov_ld 2 rfl rfl rfl) rfl rfl ?_ | refine dr_op (ov_fieldAddr rfl rfl rfl) rfl rfl ?_ | refine dr_end ?_ | (refine dr_yes rfl rfl rfl rfl ?_ (ov_p rfl) rfl ?_; focus (first | with_reducible rfl | assumption | omega | (simp <;> first | omega | assumption))) | (refine dr_yes rfl rfl rfl rfl ?_ (ov_lens rfl) rfl ?_; focus (first | with_reducible rfl | assumption | omega | (simp <;> first | omega | assumption))) | (refine dr_yes rfl rfl rfl rfl ?_ (ov_ld 0 rfl rfl rfl) rfl ?_; focus (first | with_reducible rfl | assumption | omega | (simp <;> first | omega | assumption))) | (refine dr_yes rfl rfl rfl rfl ?_ (ov_ld 4 rfl rfl rfl) rfl ?_; focus (first | with_reducible rfl | assumption | omega | (simp <;> first | omega | assumption))) | (refine dr_yes rfl rfl rfl rfl ?_ (ov_fieldAddr rfl rfl rfl) rfl ?_; focus (first | with_reducible rfl | assumption | omega | (simp <;> first | omega | assumption))) | (refine dr_yes rfl rfl rfl rfl ?_ (ov_pick_f rfl rfl ?_) rfl ?_; (focus (first | with_reducible rfl | assumption | omega | (simp <;> first | omega | assumption))); focus (first | with_reducible rfl | assumption | omega | (simp <;> first | omega | assumption))) | (refine dr_no rfl rfl rfl rfl ?_ rfl ?_; focus (first | with_reducible rfl | assumption | omega | (simp <;> first | omega | assumption))) | refine dr_undef rfl rfl rfl rfl rfl ?_)
          repeat (first | refine sy_k rfl rfl ?_ | (refine gO ?_; first | refine sy_ov (ov_p rfl) rfl rfl ?_ | (refine gB ?_; (refine sy_ov (ov_ar rfl rfl rfl ?_ ?_) rfl rfl ?_; omega; omega)) | (refine gL ?_; refine sy_ov (ov_ld 4 rfl rfl rfl) rfl rfl ?_) | refine sy_ov (ov_fieldAddr rfl rfl rfl) rfl rfl ?_) | (refine sy_cond_f rfl ?_ ?_; focus (first | with_reducible rfl | assumption | omega | (simp <;> first | omega | assumption))))
          refine sy_back (α := TcSt) ⟨i + 1, b⟩ ⟨hnext, by dsimp only; omega, by dsimp only; omega⟩ (by dsimp only; omega) ⟨⟨_, rfl, rfl⟩, ⟨_, rfl, rfl⟩, ⟨_, rfl, rfl⟩, ⟨_, rfl, rfl⟩, ⟨_, rfl, by simp⟩, trivial⟩ (sd (sd (sd (sd (sd sr)))))
        · dsimp only at hk0 e1 e2 e3
          subst e1
          subst e2
          subst e3
          refine sy_calln rfl rfl (fun w _ => scan_c ((q.drop a).take (b - a)) (by simp only [List.length_take, List.length_drop]; omega) w) ?_
          rintro _ _ ⟨p4, q4, rfl, rfl⟩
          rw [show scanR ((q.drop a).take (b - a)) = _ from (if_neg (by simp only [List.length_take, List.length_drop]; omega)).trans hu]
          dsimp only
          repeat (first | refine sy_k rfl rfl ?_ | (refine gO ?_; first | refine sy_ov (ov_p rfl) rfl rfl ?_ | (refine gS ?_; refine sy_store 0 rfl rfl rfl rfl rfl rfl rfl rfl ?_) | (refine sy_alloc rfl rfl rfl ?_; intro _)))
          refine sy_vecAddr 1 rfl (by simp) ?_
          rintro g4 rfl
          refine sy_draw 50 (by kernel_rfl) ?_
          repeat (first | (refine dr_op (ov_pick_f rfl rfl ?_) rfl rfl ?_; focus (first | with_reducible rfl | assumption | omega | (simp <;> first | omega | assumption))) | refine dr_op (ov_p rfl) rfl rfl ?_ | refine dr_op (ov_ld 2 rfl rfl rfl) rfl rfl ?_ | refine dr_op (ov_fieldAddr rfl rfl rfl) rfl rfl ?_ | (refine dr_yes rfl rfl rfl rfl ?_ (ov_p rfl) rfl ?_; focus (first | with_reducible rfl | assumption | omega | (simp <;> first | omega | assumption))) | (refine dr_yes rfl rfl rfl rfl ?_ (ov_lens rfl) rfl ?_; focus (first | with_reducible rfl | assumption | omega | (simp <;> first | omega | assumption))) | (refine dr_yes rfl rfl rfl rfl ?_ (ov_ld 0 rfl rfl rfl) rfl ?_; focus (first | with_reducible rfl | assumption | omega | (simp <;> first | omega | assumption))) | (refine dr_yes rfl rfl rfl rfl ?_ (ov_ld 4 rfl rfl rfl) rfl ?_; focus (first | with_reducible rfl | assumption | omega | (simp <;> first | omega | assumption))) | (refine dr_yes rfl rfl rfl rfl ?_ (ov_fieldAddr rfl rfl rfl) rfl ?_; focus (first | with_reducible rfl | assumption | omega | (simp <;> first | omega | assumption))))
          refine dr_yes rfl rfl rfl rfl ?_ (ov_indexAddr rfl rfl ?_ ?_) rfl ?_
          focus (first | with_reducible rfl | assumption | omega | (simp <;> first | omega | assumption))
          focus (simp)
          focus (simp)
          repeat ((refine dr_yes rfl rfl rfl rfl ?_ (ov_fieldAddr rfl rfl rfl) rfl ?_; focus (first | with_reducible rfl | assumption | omega | (simp <;> first | omega | assumption))))
          refine dr_yes rfl rfl rfl rfl ?_ (ov_loadv 1 (v := .int .i64 ku) rfl rfl rfl rfl) rfl ?_
          focus (first | with_reducible rfl | assumption | omega | (simp <;> first | omega | assumption))
          repeat (first | (refine dr_yes rfl rfl rfl rfl ?_ (ov_p rfl) rfl ?_; focus (first | with_reducible rfl | assumption | omega | (simp <;> first | omega | assumption))) | (refine dr_yes rfl rfl rfl rfl ?_ (ov_ld 4 rfl rfl rfl) rfl ?_; focus (first | with_reducible rfl | assumption | omega | (simp <;> first | omega | assumption))) | (refine dr_yes rfl rfl rfl rfl ?_ (ov_fieldAddr rfl rfl rfl) rfl ?_; focus (first | with_reducible rfl | assumption | omega | (simp <;> first | omega | assumption))) | (refine dr_yes rfl rfl rfl rfl ?_ (ov_pick_f rfl rfl ?_) rfl ?_; (focus (first | with_reducible rfl | assumption | omega | (simp <;> first | omega | assumption))); focus (first | with_reducible rfl | assumption | omega | (simp <;> first | omega | assumption))))
          refine dr_yes rfl rfl rfl rfl ?_ (ov_indexAddr rfl rfl ?_ ?_) rfl ?_
          focus (first | with_reducible rfl | assumption | omega | (simp <;> first | omega | assumption))
          focus (simp)
          focus (simp)
          repeat ((refine dr_yes rfl rfl rfl rfl ?_ (ov_fieldAddr rfl rfl rfl) rfl ?_; focus (first | with_reducible rfl | assumption | omega | (simp <;> first | omega | assumption))))
          refine dr_yes rfl rfl rfl rfl ?_ (ov_loadv 1 (v := S zu) rfl rfl rfl rfl) rfl ?_
          focus (first | with_reducible rfl | assumption | omega | (simp <;> first | omega | assumption))
          repeat (first | (refine dr_yes rfl rfl rfl rfl ?_ (ov_p rfl) rfl ?_; focus (first | with_reducible rfl | assumption | omega | (simp <;> first | omega | assumption))) | (refine dr_yes rfl rfl rfl rfl ?_ (ov_ld 4 rfl rfl rfl) rfl ?_; focus (first | with_reducible rfl | assumption | omega | (simp <;> first | omega | assumption))) | (refine dr_yes rfl rfl rfl rfl ?_ (ov_fieldAddr rfl rfl rfl) rfl ?_; focus (first | with_reducible rfl | assumption | omega | (simp <;> first | omega | assumption))) | (refine dr_yes rfl rfl rfl rfl ?_ (ov_pick_f rfl rfl ?_) rfl ?_; (focus (first | with_reducible rfl | assumption | omega | (simp <;> first | omega | assumption))); focus (first | with_reducible rfl | assumption | omega | (simp <;> first | omega | assumption))))
          refine dr_yes rfl rfl rfl rfl ?_ (ov_indexAddr rfl rfl ?_ ?_) rfl ?_
          focus (first | with_reducible rfl | assumption | omega | (simp <;> first | omega | assumption))
          focus (simp)
          focus (simp)
          repeat ((refine dr_yes rfl rfl rfl rfl ?_ (ov_fieldAddr rfl rfl rfl) rfl ?_; focus (first | with_reducible rfl | assumption | omega | (simp <;> first | omega | assumption))))
          refine dr_yes rfl rfl rfl rfl ?_ (ov_loadv 1 (v := .int .i64 nu) rfl rfl rfl rfl) rfl ?_
          focus (first | with_reducible rfl | assumption | omega | (simp <;> first | omega | assumption))
          repeat (first | (refine dr_op (ov_pick_f rfl rfl ?_) rfl rfl ?_; focus (first | with_reducible rfl | assumption | omega | (simp <;> first | omega | assumption))) | refine dr_end ?_ | (refine dr_yes rfl rfl rfl rfl ?_ (ov_p rfl) rfl ?_; focus (first | with_reducible rfl | assumption | omega | (simp <;> first | omega | assumption))) | (refine dr_yes rfl rfl rfl rfl ?_ (ov_ld 4 rfl rfl rfl) rfl ?_; focus (first | with_reducible rfl | assumption | omega | (simp <;> first | omega | assumption))) | (refine dr_yes rfl rfl rfl rfl ?_ (ov_fieldAddr rfl rfl rfl) rfl ?_; focus (first | with_reducible rfl | assumption | omega | (simp <;> first | omega | assumption))) | (refine dr_yes rfl rfl rfl rfl ?_ (ov_pick_t rfl rfl ?_) rfl ?_; (focus (first | with_reducible rfl | assumption | omega | (simp <;> first | omega | assumption))); focus (first | with_reducible rfl | assumption | omega | (simp <;> first | omega | assumption))) | (refine dr_yes rfl rfl rfl rfl ?_ (ov_pick_f rfl rfl ?_) rfl ?_; (focus (first | with_reducible rfl | assumption | omega | (simp <;> first | omega | assumption))); focus (first | with_reducible rfl | assumption | omega | (simp <;> first | omega | assumption))))
          repeat (first | refine sy_k rfl rfl ?_ | (refine gO ?_; first | refine sy_ov (ov_p rfl) rfl rfl ?_ | (refine gB ?_; (refine sy_ov (ov_ar rfl rfl rfl ?_ ?_) rfl rfl ?_; omega; omega)) | (refine gL ?_; refine sy_ov (ov_ld 4 rfl rfl rfl) rfl rfl ?_) | refine sy_ov (ov_fieldAddr rfl rfl rfl) rfl rfl ?_) | (refine sy_cond_f rfl ?_ ?_; focus (first | with_reducible rfl | assumption | omega | (simp <;> first | omega | assumption))))
          refine sy_back (α := TcSt) ⟨i + 1, b⟩ ⟨hnext, by dsimp only; omega, by dsimp only; omega⟩ (by dsimp only; omega) ⟨⟨_, rfl, rfl⟩, ⟨_, rfl, rfl⟩, ⟨_, rfl, rfl⟩, ⟨_, rfl, rfl⟩, ⟨_, rfl, by simp⟩, trivial⟩ (sd (sd (sd (sd (sd sr)))))
      · have : i = L.length := by omega
        subst this
        repeat (first | refine sy_k rfl rfl ?_ | (refine gO ?_; first | refine sy_ov (ov_p rfl) rfl rfl ?_ | (refine gG ?_; (refine sy_guard_yes rfl rfl rfl rfl rfl ?_ ?_; focus (first | with_reducible rfl | assumption | omega | (simp <;> first | omega | assumption)))) | (refine gK ?_; refine sy_ov (ov_lens rfl) rfl rfl ?_)) | (refine sy_cond_f rfl ?_ ?_; focus (first | with_reducible rfl | assumption | omega | (simp <;> first | omega | assumption))))
        refine sy_ov (ov_call rfl (fun w _ => lives13_c w)) rfl rfl ?_
        repeat (first | refine sy_k rfl rfl ?_ | (refine gO ?_; first | refine sy_ov (ov_p rfl) rfl rfl ?_ | (refine sy_ov (ov_pick_t rfl rfl ?_) rfl rfl ?_; focus (with_reducible rfl))) | refine sy_rt ?_)
        exact ret1 rfl rfl rfl
    · obtain ⟨rfl, hale⟩ := scanR_bad hL he (by omega)
      refine sy_enter rfl rfl ?_
      simp only [initFr]
      repeat (first | refine sy_k rfl rfl ?_ | (refine gO ?_; first | refine sy_ov (ov_p rfl) rfl rfl ?_ | (refine gK ?_; refine sy_ov (ov_len rfl) rfl rfl ?_)) | (refine sy_cond_f rfl ?_ ?_; focus (first | with_reducible rfl | assumption | omega | (simp <;> first | omega | assumption))))
      refine sy_calln rfl rfl (fun w _ => scan_c q (by omega) w) ?_
      rintro _ _ ⟨p1, q1, rfl, rfl⟩
      rw [hL]
      dsimp only
      repeat (first | refine sy_k rfl rfl ?_ | (refine gO ?_; first | refine sy_ov (ov_p rfl) rfl rfl ?_ | (refine gG ?_; (refine sy_guard_yes rfl rfl rfl rfl rfl ?_ ?_; focus (first | with_reducible rfl | assumption | omega | (simp <;> first | omega | assumption)))) | (refine gK ?_; first | refine sy_ov (ov_len rfl) rfl rfl ?_ | refine sy_ov (ov_lens rfl) rfl rfl ?_) | (refine gL ?_; refine sy_ov (ov_ld 0 rfl rfl rfl) rfl rfl ?_) | (refine gS ?_; refine sy_store 0 rfl rfl rfl rfl rfl rfl rfl rfl ?_) | (refine sy_ov (ov_pick_t rfl rfl ?_) rfl rfl ?_; focus (with_reducible rfl)) | refine sy_ov (ov_fieldAddr rfl rfl rfl) rfl rfl ?_ | (refine sy_alloc rfl rfl rfl ?_; intro _)) | (refine sy_cond_t rfl ?_ ?_; focus (first | with_reducible rfl | assumption | omega | (simp <;> first | omega | assumption))))
      refine sy_ov (ov_call rfl (fun w _ => lives13_c w)) rfl rfl ?_
      repeat (first | refine sy_k rfl rfl ?_ | (refine gO ?_; first | refine sy_ov (ov_p rfl) rfl rfl ?_ | (refine sy_ov (ov_pick_t rfl rfl ?_) rfl rfl ?_; focus (with_reducible rfl))) | refine sy_rt ?_)
      exact ret1 rfl rfl rfl
end Go.Proofs.Yteiejcililponaa
