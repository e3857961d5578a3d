/- Contracts: the reference's step; Parse of both. -/
import Derived.Test.YteddjadeenimkaaPathsQ
set_option linter.unusedVariables false
set_option linter.unusedSimpArgs false
namespace Go.Proofs.Yteddjadeenimkaa
open Go.RowKit Bf
theorem namedL_eq (k : Int) (r : List UInt8) : namedL k r = if 1 ≤ namN r ∧ namN r ≤ 32 then ((k, 0, r.take (namN r)), 1 + (namN r : Int), 0, 0) else (zst, 0, 9, 1) := by
  unfold namedL
  rw [namB_take]
  by_cases h : 1 ≤ namN r ∧ namN r ≤ 32
  · rw [if_pos h, if_pos (by simp; exact h)]
  · rw [if_neg h, if_neg (by simp; omega)]
set_option maxRecDepth 20000 in
set_option maxHeartbeats 2000000 in
theorem rstep_named (s : List UInt8) (i k : Int) (h0 : 0 ≤ i) (h1 : i < s.length) (hs : s.length ≤ 4611686018427387000) (w : World) (hk : (bt s i = 46 ∧ k = 1) ∨ (bt s i = 33 ∧ k = 5)) :
    Calls Try.prog 82 #[S s, .int .i64 i] w fun x w' => x = .returned (rdV i (namedL k (s.drop (i + 1).toNat))) ∧ Below w.heap.size w w' := by
  obtain ⟨n, hn⟩ : ∃ n, namN (s.drop (i + 1).toNat) = n := ⟨_, rfl⟩
  have hle := namN_le (s.drop (i + 1).toNat)
  rw [hn, List.length_drop] at hle
  have hnm := namedL_eq k (s.drop (i + 1).toNat)
  rw [hn] at hnm
  rw [hnm]
  clear hnm
  have e1 : (i + 1 + (n : Int) - (i + 1)).toNat = n := by omega
  by_cases c1 : i + 1 < s.length
  · by_cases c2 : (n : Int) < 1
    · rw [if_neg (by omega)]
      rcases hk with ⟨hk, rfl⟩ | ⟨hk, rfl⟩
      all_goals
        refine sy_enter rfl rfl ?_
        simp only [initFr]
        repeat (first | refine sy_k rfl rfl ?_ | (refine gO ?_; first | refine sy_ov (ov_p rfl) rfl rfl ?_ | (refine gG ?_; first | (refine sy_guard_yes rfl rfl rfl rfl rfl ?_ ?_; focus (first | with_reducible rfl | assumption | omega | (simp <;> first | omega | assumption))) | (refine sy_guard_no rfl rfl rfl rfl rfl ?_ ?_; focus (first | with_reducible rfl | assumption | omega | (simp <;> first | omega | assumption)))) | (refine gB ?_; (refine sy_ov (ov_ar rfl rfl rfl ?_ ?_) rfl rfl ?_; omega; omega)) | (refine gK ?_; refine sy_ov (ov_len rfl) rfl rfl ?_) | (refine sy_ov (ov_pick_f rfl rfl ?_) rfl rfl ?_; focus (with_reducible rfl)) | refine sy_ov (ov_pick rfl rfl rfl) rfl rfl ?_ | (refine sy_ov (ov_index rfl rfl ?_ ?_) rfl rfl ?_; omega; omega) | (refine sy_alloc rfl rfl rfl ?_; intro _)) | (refine sy_cond_t rfl ?_ ?_; focus (first | with_reducible rfl | assumption | omega | (simp <;> first | omega | assumption))))
        refine sy_ov (ov_call rfl (fun w _ => rsigns_c s (i + 1) n hn (by omega) (by omega) (by omega) w)) rfl rfl ?_
        repeat (first | refine sy_k rfl rfl ?_ | (refine gO ?_; first | refine sy_ov (ov_p rfl) rfl rfl ?_ | (refine gG ?_; (refine sy_guard_no rfl rfl rfl rfl rfl ?_ ?_; focus (first | with_reducible rfl | assumption | omega | (simp <;> first | omega | assumption)))) | (refine gB ?_; (refine sy_ov (ov_ar rfl rfl rfl ?_ ?_) rfl rfl ?_; omega; omega)) | (refine gS ?_; first | refine sy_store 0 rfl rfl rfl rfl rfl rfl rfl rfl ?_ | refine sy_store 1 rfl rfl rfl rfl rfl rfl rfl rfl ?_) | refine sy_ov (ov_pick rfl rfl rfl) rfl rfl ?_ | refine sy_ov (ov_build rfl rfl rfl) rfl rfl ?_) | (refine sy_cond_t rfl ?_ ?_; focus (first | with_reducible rfl | assumption | omega | (simp <;> first | omega | assumption))) | refine sy_rt ?_)
        exact ret_ctc 1 0 rfl rfl rfl rfl rfl rfl rfl rfl rfl rfl (by rw [rdV1]; (focus (refine tup3 rfl rfl (congrArg (faultV _) ?_); omega)); first | assumption | decide)
    · by_cases c3 : 32 < (n : Int)
      · rw [if_neg (by omega)]
        rcases hk with ⟨hk, rfl⟩ | ⟨hk, rfl⟩
        all_goals
          refine sy_enter rfl rfl ?_
          simp only [initFr]
          repeat (first | refine sy_k rfl rfl ?_ | (refine gO ?_; first | refine sy_ov (ov_p rfl) rfl rfl ?_ | (refine gG ?_; first | (refine sy_guard_yes rfl rfl rfl rfl rfl ?_ ?_; focus (first | with_reducible rfl | assumption | omega | (simp <;> first | omega | assumption))) | (refine sy_guard_no rfl rfl rfl rfl rfl ?_ ?_; focus (first | with_reducible rfl | assumption | omega | (simp <;> first | omega | assumption)))) | (refine gB ?_; (refine sy_ov (ov_ar rfl rfl rfl ?_ ?_) rfl rfl ?_; omega; omega)) | (refine gK ?_; refine sy_ov (ov_len rfl) rfl rfl ?_) | (refine sy_ov (ov_pick_f rfl rfl ?_) rfl rfl ?_; focus (with_reducible rfl)) | refine sy_ov (ov_pick rfl rfl rfl) rfl rfl ?_ | (refine sy_ov (ov_index rfl rfl ?_ ?_) rfl rfl ?_; omega; omega) | (refine sy_alloc rfl rfl rfl ?_; intro _)) | (refine sy_cond_t rfl ?_ ?_; focus (first | with_reducible rfl | assumption | omega | (simp <;> first | omega | assumption))))
          refine sy_ov (ov_call rfl (fun w _ => rsigns_c s (i + 1) n hn (by omega) (by omega) (by omega) w)) rfl rfl ?_
          repeat (first | refine sy_k rfl rfl ?_ | (refine gO ?_; first | refine sy_ov (ov_p rfl) rfl rfl ?_ | (refine gG ?_; (refine sy_guard_yes rfl rfl rfl rfl rfl ?_ ?_; focus (first | with_reducible rfl | assumption | omega | (simp <;> first | omega | assumption)))) | (refine gB ?_; (refine sy_ov (ov_ar rfl rfl rfl ?_ ?_) rfl rfl ?_; omega; omega)) | (refine gS ?_; first | refine sy_store 0 rfl rfl rfl rfl rfl rfl rfl rfl ?_ | refine sy_store 1 rfl rfl rfl rfl rfl rfl rfl rfl ?_) | (refine sy_ov (ov_pick_f rfl rfl ?_) rfl rfl ?_; focus (with_reducible rfl)) | refine sy_ov (ov_build rfl rfl rfl) rfl rfl ?_) | (refine sy_cond_t rfl ?_ ?_; focus (first | with_reducible rfl | assumption | omega | (simp <;> first | omega | assumption))) | refine sy_rt ?_)
          exact ret_ctc 1 0 rfl rfl rfl rfl rfl rfl rfl rfl rfl rfl (by rw [rdV1]; (focus (refine tup3 rfl rfl (congrArg (faultV _) ?_); omega)); first | assumption | decide)
      · rw [if_pos (by omega)]
        rcases hk with ⟨hk, rfl⟩ | ⟨hk, rfl⟩
        all_goals
          refine sy_enter rfl rfl ?_
          simp only [initFr]
          repeat (first | refine sy_k rfl rfl ?_ | (refine gO ?_; first | refine sy_ov (ov_p rfl) rfl rfl ?_ | (refine gG ?_; first | (refine sy_guard_yes rfl rfl rfl rfl rfl ?_ ?_; focus (first | with_reducible rfl | assumption | omega | (simp <;> first | omega | assumption))) | (refine sy_guard_no rfl rfl rfl rfl rfl ?_ ?_; focus (first | with_reducible rfl | assumption | omega | (simp <;> first | omega | assumption)))) | (refine gB ?_; (refine sy_ov (ov_ar rfl rfl rfl ?_ ?_) rfl rfl ?_; omega; omega)) | (refine gK ?_; refine sy_ov (ov_len rfl) rfl rfl ?_) | (refine sy_ov (ov_pick_f rfl rfl ?_) rfl rfl ?_; focus (with_reducible rfl)) | refine sy_ov (ov_pick rfl rfl rfl) rfl rfl ?_ | (refine sy_ov (ov_index rfl rfl ?_ ?_) rfl rfl ?_; omega; omega) | (refine sy_alloc rfl rfl rfl ?_; intro _)) | (refine sy_cond_t rfl ?_ ?_; focus (first | with_reducible rfl | assumption | omega | (simp <;> first | omega | assumption))))
          refine sy_ov (ov_call rfl (fun w _ => rsigns_c s (i + 1) n hn (by omega) (by omega) (by omega) w)) rfl rfl ?_
          repeat (first | refine sy_k rfl rfl ?_ | (refine gO ?_; first | refine sy_ov (ov_p rfl) rfl rfl ?_ | (refine gG ?_; (refine sy_guard_yes rfl rfl rfl rfl rfl ?_ ?_; focus (first | with_reducible rfl | assumption | omega | (simp <;> first | omega | assumption)))) | (refine gB ?_; (refine sy_ov (ov_ar rfl rfl rfl ?_ ?_) rfl rfl ?_; omega; omega)) | (refine gL ?_; refine sy_ov (ov_ld 0 rfl rfl rfl) rfl rfl ?_) | (refine gS ?_; first | refine sy_store 0 rfl rfl rfl rfl rfl rfl rfl rfl ?_ | refine sy_store 1 rfl rfl rfl rfl rfl rfl rfl rfl ?_ | refine sy_store 2 rfl rfl rfl rfl rfl rfl rfl rfl ?_) | (refine gI ?_; (refine sy_ov (ov_slice rfl rfl rfl ?_ ?_ ?_) rfl rfl ?_; (focus (first | omega | (simp <;> omega))); (focus (first | omega | (simp <;> omega))); focus (first | omega | (simp <;> omega)))) | (refine sy_ov (ov_pick_f rfl rfl ?_) rfl rfl ?_; focus (with_reducible rfl)) | refine sy_ov (ov_fieldAddr rfl rfl rfl) rfl rfl ?_ | refine sy_ov (ov_build rfl rfl rfl) rfl rfl ?_ | (refine sy_alloc rfl rfl rfl ?_; intro _)) | (refine sy_cond_t rfl ?_ ?_; focus (first | with_reducible rfl | assumption | omega | (simp <;> first | omega | assumption))) | (refine sy_cond_f rfl ?_ ?_; focus (first | with_reducible rfl | assumption | omega | (simp <;> first | omega | assumption))) | refine sy_rt ?_)
          exact ret_ctc 2 1 rfl rfl rfl rfl rfl rfl rfl rfl rfl rfl (by rw [e1]; rw [rdV0]; refine tup3 rfl ?_ rfl; omega)
  · have hz : n = 0 := by omega
    subst hz
    rw [if_neg (by omega)]
    rcases hk with ⟨hk, rfl⟩ | ⟨hk, rfl⟩
    all_goals
      refine sy_enter rfl rfl ?_
      simp only [initFr]
      repeat (first | refine sy_k rfl rfl ?_ | (refine gO ?_; first | refine sy_ov (ov_p rfl) rfl rfl ?_ | (refine gG ?_; first | (refine sy_guard_yes rfl rfl rfl rfl rfl ?_ ?_; focus (first | with_reducible rfl | assumption | omega | (simp <;> first | omega | assumption))) | (refine sy_guard_no rfl rfl rfl rfl rfl ?_ ?_; focus (first | with_reducible rfl | assumption | omega | (simp <;> first | omega | assumption)))) | (refine gB ?_; (refine sy_ov (ov_ar rfl rfl rfl ?_ ?_) rfl rfl ?_; omega; omega)) | (refine gK ?_; refine sy_ov (ov_len rfl) rfl rfl ?_) | (refine gS ?_; first | refine sy_store 0 rfl rfl rfl rfl rfl rfl rfl rfl ?_ | refine sy_store 1 rfl rfl rfl rfl rfl rfl rfl rfl ?_) | (refine sy_ov (ov_pick_f rfl rfl ?_) rfl rfl ?_; focus (with_reducible rfl)) | refine sy_ov (ov_pick rfl rfl rfl) rfl rfl ?_ | (refine sy_ov (ov_index rfl rfl ?_ ?_) rfl rfl ?_; omega; omega) | refine sy_ov (ov_build rfl rfl rfl) rfl rfl ?_ | (refine sy_alloc rfl rfl rfl ?_; intro _)) | (refine sy_cond_t rfl ?_ ?_; focus (first | with_reducible rfl | assumption | omega | (simp <;> first | omega | assumption))) | (refine sy_cond_f rfl ?_ ?_; focus (first | with_reducible rfl | assumption | omega | (simp <;> first | omega | assumption))) | refine sy_rt ?_)
      exact ret_ctc 1 0 rfl rfl rfl rfl rfl rfl rfl rfl rfl rfl (by rw [rdV1]; (focus (refine tup3 rfl rfl (congrArg (faultV _) ?_); omega)); first | assumption | decide)
set_option maxRecDepth 20000 in
set_option maxHeartbeats 2000000 in
theorem rstep_item (s : List UInt8) (i : Int) (h0 : 0 ≤ i) (h1 : i < s.length) (hs : s.length ≤ 4611686018427387000) (w : World) (hk : bt s i = 91) :
    Calls Try.prog 82 #[S s, .int .i64 i] w fun x w' => x = .returned (rdV i (itemL (s.drop (i + 1).toNat))) ∧ Below w.heap.size w w' := by
  obtain ⟨v, e, f, p, ht, i1, i2⟩ := item_ways s i h0 h1
  have tail : ¬ (i + 1 < s.length ∧ bt s (i + 1) = 93) → Calls Try.prog 82 #[S s, .int .i64 i] w fun x w' => x = .returned (rdV i (itemL (s.drop (i + 1).toNat))) ∧ Below w.heap.size w w' := by
    intro hn
    obtain ⟨j1, j2⟩ := i2 hn
    have start : ∀ (Q : Prop), (i + 1 < s.length → bt s (i + 1) ≠ 93 → Q) → (¬ i + 1 < s.length → Q) → Q := fun Q a b => by
      by_cases c : i + 1 < s.length
      · exact a c (fun h => hn ⟨c, h⟩)
      · exact b c
    by_cases hf : f = 0
    · subst hf
      obtain ⟨e0, e1, k1, k2, k3⟩ := j2 rfl
      by_cases hv : v < 0
      · have hi := k1 hv
        refine start _ (fun c1 c2 => ?_) (fun c1 => ?_)
        all_goals
          refine sy_enter rfl rfl ?_
          simp only [initFr]
          repeat (first | refine sy_k rfl rfl ?_ | (refine gO ?_; first | refine sy_ov (ov_p rfl) rfl rfl ?_ | (refine gG ?_; first | (refine sy_guard_yes rfl rfl rfl rfl rfl ?_ ?_; focus (first | with_reducible rfl | assumption | omega | (simp <;> first | omega | assumption))) | (refine sy_guard_no rfl rfl rfl rfl rfl ?_ ?_; focus (first | with_reducible rfl | assumption | omega | (simp <;> first | omega | assumption)))) | (refine gB ?_; (refine sy_ov (ov_ar rfl rfl rfl ?_ ?_) rfl rfl ?_; omega; omega)) | (refine gK ?_; refine sy_ov (ov_len rfl) rfl rfl ?_) | (refine sy_ov (ov_pick_t rfl rfl ?_) rfl rfl ?_; focus (with_reducible rfl)) | (refine sy_ov (ov_pick_f rfl rfl ?_) rfl rfl ?_; focus (with_reducible rfl)) | refine sy_ov (ov_pick rfl rfl rfl) rfl rfl ?_ | (refine sy_ov (ov_index rfl rfl ?_ ?_) rfl rfl ?_; omega; omega) | (refine sy_alloc rfl rfl rfl ?_; intro _)) | (refine sy_cond_f rfl ?_ ?_; focus (first | with_reducible rfl | assumption | omega | (simp <;> first | omega | assumption))))
          refine sy_ov (ov_call rfl (fun w _ => rdtake_c s (i + 1) v e 0 p ht (by omega) (by omega) (by omega) w)) rfl rfl ?_
          repeat (first | refine sy_k rfl rfl ?_ | (refine gO ?_; first | refine sy_ov (ov_p rfl) rfl rfl ?_ | (refine gG ?_; first | refine sy_guard_undef rfl rfl rfl rfl rfl ?_ | (refine sy_guard_yes rfl rfl rfl rfl rfl ?_ ?_; focus (first | with_reducible rfl | assumption | omega | (simp <;> first | omega | assumption))) | (refine sy_guard_no rfl rfl rfl rfl rfl ?_ ?_; focus (first | with_reducible rfl | assumption | omega | (simp <;> first | omega | assumption)))) | (refine gB ?_; (refine sy_ov (ov_ar rfl rfl rfl ?_ ?_) rfl rfl ?_; omega; omega)) | (refine gL ?_; refine sy_ov (ov_ld 0 rfl rfl rfl) rfl rfl ?_) | (refine gS ?_; refine sy_store 0 rfl rfl rfl rfl rfl rfl rfl rfl ?_) | (refine sy_ov (ov_pick_t rfl rfl ?_) rfl rfl ?_; focus (with_reducible rfl)) | refine sy_ov (ov_pick rfl rfl rfl) rfl rfl ?_ | refine sy_ov (ov_fieldAddr rfl rfl rfl) rfl rfl ?_ | refine sy_ov (ov_build rfl rfl rfl) rfl rfl ?_ | (refine sy_alloc rfl rfl rfl ?_; intro _)) | (refine sy_cond_t rfl ?_ ?_; focus (first | with_reducible rfl | assumption | omega | (simp <;> first | omega | assumption))) | (refine sy_cond_f rfl ?_ ?_; focus (first | with_reducible rfl | assumption | omega | (simp <;> first | omega | assumption))))
          refine sy_drawE _ 4 [(0, false), (1, false), (2, true), (3, false)] (by kernel_rfl) rfl (sk (sk (sd sr))) ?_
          repeat (first | refine dre_rd (fun _ _ => ov_p rfl) rfl ?_ | refine dre_rd (fun _ _ => ov_ld 0 rfl rfl rfl) rfl ?_ | refine dre_rd (fun _ _ => ov_build rfl rfl rfl) rfl ?_ | (refine dre_ef rfl ?_; refine sy_store 2 rfl rfl rfl rfl rfl rfl rfl rfl ?_; refine dre_ek (by first | exact sr | exact sk sr | (repeat first | exact sr | apply sk | apply sd)) ?_) | refine dre_end ?_)
          repeat (first | refine sy_k rfl rfl ?_ | (refine gO ?_; (refine gS ?_; refine sy_store 1 rfl rfl rfl rfl rfl rfl rfl rfl ?_)) | refine sy_rt ?_)
          exact ret_ctc 2 1 rfl rfl rfl rfl rfl rfl rfl rfl rfl rfl (by rw [hi]; rw [rdV1]; (focus (refine tup3 rfl rfl (congrArg (faultV _) ?_); omega)); first | assumption | decide)
      · by_cases he : (s.length : Int) ≤ e
        · have hi := k3 (by omega) (by omega)
          refine start _ (fun c1 c2 => ?_) (fun c1 => ?_)
          all_goals
            refine sy_enter rfl rfl ?_
            simp only [initFr]
            repeat (first | refine sy_k rfl rfl ?_ | (refine gO ?_; first | refine sy_ov (ov_p rfl) rfl rfl ?_ | (refine gG ?_; first | (refine sy_guard_yes rfl rfl rfl rfl rfl ?_ ?_; focus (first | with_reducible rfl | assumption | omega | (simp <;> first | omega | assumption))) | (refine sy_guard_no rfl rfl rfl rfl rfl ?_ ?_; focus (first | with_reducible rfl | assumption | omega | (simp <;> first | omega | assumption)))) | (refine gB ?_; (refine sy_ov (ov_ar rfl rfl rfl ?_ ?_) rfl rfl ?_; omega; omega)) | (refine gK ?_; refine sy_ov (ov_len rfl) rfl rfl ?_) | (refine sy_ov (ov_pick_t rfl rfl ?_) rfl rfl ?_; focus (with_reducible rfl)) | (refine sy_ov (ov_pick_f rfl rfl ?_) rfl rfl ?_; focus (with_reducible rfl)) | refine sy_ov (ov_pick rfl rfl rfl) rfl rfl ?_ | (refine sy_ov (ov_index rfl rfl ?_ ?_) rfl rfl ?_; omega; omega) | (refine sy_alloc rfl rfl rfl ?_; intro _)) | (refine sy_cond_f rfl ?_ ?_; focus (first | with_reducible rfl | assumption | omega | (simp <;> first | omega | assumption))))
            refine sy_ov (ov_call rfl (fun w _ => rdtake_c s (i + 1) v e 0 p ht (by omega) (by omega) (by omega) w)) rfl rfl ?_
            repeat (first | refine sy_k rfl rfl ?_ | (refine gO ?_; first | refine sy_ov (ov_p rfl) rfl rfl ?_ | (refine gG ?_; first | (refine sy_guard_yes rfl rfl rfl rfl rfl ?_ ?_; focus (first | with_reducible rfl | assumption | omega | (simp <;> first | omega | assumption))) | (refine sy_guard_no rfl rfl rfl rfl rfl ?_ ?_; focus (first | with_reducible rfl | assumption | omega | (simp <;> first | omega | assumption)))) | (refine gK ?_; refine sy_ov (ov_len rfl) rfl rfl ?_) | (refine gL ?_; refine sy_ov (ov_ld 0 rfl rfl rfl) rfl rfl ?_) | (refine gS ?_; refine sy_store 0 rfl rfl rfl rfl rfl rfl rfl rfl ?_) | (refine sy_ov (ov_pick_t rfl rfl ?_) rfl rfl ?_; focus (with_reducible rfl)) | refine sy_ov (ov_pick rfl rfl rfl) rfl rfl ?_ | refine sy_ov (ov_fieldAddr rfl rfl rfl) rfl rfl ?_ | refine sy_ov (ov_build rfl rfl rfl) rfl rfl ?_ | (refine sy_alloc rfl rfl rfl ?_; intro _)) | (refine sy_cond_t rfl ?_ ?_; focus (first | with_reducible rfl | assumption | omega | (simp <;> first | omega | assumption))) | (refine sy_cond_f rfl ?_ ?_; focus (first | with_reducible rfl | assumption | omega | (simp <;> first | omega | assumption))))
            refine sy_drawE _ 4 [(0, false), (1, false), (2, true), (3, false)] (by kernel_rfl) rfl (sk (sk (sd sr))) ?_
            repeat (first | refine dre_rd (fun _ _ => ov_p rfl) rfl ?_ | refine dre_rd (fun _ _ => ov_ld 0 rfl rfl rfl) rfl ?_ | refine dre_rd (fun _ _ => ov_build rfl rfl rfl) rfl ?_ | (refine dre_ef rfl ?_; refine sy_store 2 rfl rfl rfl rfl rfl rfl rfl rfl ?_; refine dre_ek (by first | exact sr | exact sk sr | (repeat first | exact sr | apply sk | apply sd)) ?_) | refine dre_end ?_)
            repeat (first | refine sy_k rfl rfl ?_ | (refine gO ?_; (refine gS ?_; refine sy_store 1 rfl rfl rfl rfl rfl rfl rfl rfl ?_)) | refine sy_rt ?_)
            exact ret_ctc 2 1 rfl rfl rfl rfl rfl rfl rfl rfl rfl rfl (by rw [hi]; rw [rdV1]; (focus (refine tup3 rfl rfl (congrArg (faultV _) ?_); omega)); first | assumption | decide)
        · by_cases hb : bt s e = 93
          · have hi := k2 (by omega) (by omega) hb
            refine start _ (fun c1 c2 => ?_) (fun c1 => ?_)
            all_goals
              refine sy_enter rfl rfl ?_
              simp only [initFr]
              repeat (first | refine sy_k rfl rfl ?_ | (refine gO ?_; first | refine sy_ov (ov_p rfl) rfl rfl ?_ | (refine gG ?_; first | (refine sy_guard_yes rfl rfl rfl rfl rfl ?_ ?_; focus (first | with_reducible rfl | assumption | omega | (simp <;> first | omega | assumption))) | (refine sy_guard_no rfl rfl rfl rfl rfl ?_ ?_; focus (first | with_reducible rfl | assumption | omega | (simp <;> first | omega | assumption)))) | (refine gB ?_; (refine sy_ov (ov_ar rfl rfl rfl ?_ ?_) rfl rfl ?_; omega; omega)) | (refine gK ?_; refine sy_ov (ov_len rfl) rfl rfl ?_) | (refine sy_ov (ov_pick_t rfl rfl ?_) rfl rfl ?_; focus (with_reducible rfl)) | (refine sy_ov (ov_pick_f rfl rfl ?_) rfl rfl ?_; focus (with_reducible rfl)) | refine sy_ov (ov_pick rfl rfl rfl) rfl rfl ?_ | (refine sy_ov (ov_index rfl rfl ?_ ?_) rfl rfl ?_; omega; omega) | (refine sy_alloc rfl rfl rfl ?_; intro _)) | (refine sy_cond_f rfl ?_ ?_; focus (first | with_reducible rfl | assumption | omega | (simp <;> first | omega | assumption))))
              refine sy_ov (ov_call rfl (fun w _ => rdtake_c s (i + 1) v e 0 p ht (by omega) (by omega) (by omega) w)) rfl rfl ?_
              repeat (first | refine sy_k rfl rfl ?_ | (refine gO ?_; first | refine sy_ov (ov_p rfl) rfl rfl ?_ | (refine gG ?_; (refine sy_guard_yes rfl rfl rfl rfl rfl ?_ ?_; focus (first | with_reducible rfl | assumption | omega | (simp <;> first | omega | assumption)))) | (refine gB ?_; (refine sy_ov (ov_ar rfl rfl rfl ?_ ?_) rfl rfl ?_; omega; omega)) | (refine gK ?_; refine sy_ov (ov_len rfl) rfl rfl ?_) | (refine gL ?_; refine sy_ov (ov_ld 0 rfl rfl rfl) rfl rfl ?_) | (refine gS ?_; first | refine sy_store 0 rfl rfl rfl rfl rfl rfl rfl rfl ?_ | refine sy_store 1 rfl rfl rfl rfl rfl rfl rfl rfl ?_ | refine sy_store 2 rfl rfl rfl rfl rfl rfl rfl rfl ?_) | (refine sy_ov (ov_pick_t rfl rfl ?_) rfl rfl ?_; focus (with_reducible rfl)) | (refine sy_ov (ov_pick_f rfl rfl ?_) rfl rfl ?_; focus (with_reducible rfl)) | refine sy_ov (ov_fieldAddr rfl rfl rfl) rfl rfl ?_ | (refine sy_ov (ov_index rfl rfl ?_ ?_) rfl rfl ?_; omega; omega) | refine sy_ov (ov_build rfl rfl rfl) rfl rfl ?_ | (refine sy_alloc rfl rfl rfl ?_; intro _)) | (refine sy_cond_f rfl ?_ ?_; focus (first | with_reducible rfl | assumption | omega | (simp <;> first | omega | assumption))) | refine sy_rt ?_)
              exact ret_ctc 2 1 rfl rfl rfl rfl rfl rfl rfl rfl rfl rfl (by rw [hi]; rw [rdV0]; refine tup3 rfl ?_ rfl; omega)
          · have hi := k3 (by omega) (fun h => hb h.2)
            refine start _ (fun c1 c2 => ?_) (fun c1 => ?_)
            all_goals
              refine sy_enter rfl rfl ?_
              simp only [initFr]
              repeat (first | refine sy_k rfl rfl ?_ | (refine gO ?_; first | refine sy_ov (ov_p rfl) rfl rfl ?_ | (refine gG ?_; first | (refine sy_guard_yes rfl rfl rfl rfl rfl ?_ ?_; focus (first | with_reducible rfl | assumption | omega | (simp <;> first | omega | assumption))) | (refine sy_guard_no rfl rfl rfl rfl rfl ?_ ?_; focus (first | with_reducible rfl | assumption | omega | (simp <;> first | omega | assumption)))) | (refine gB ?_; (refine sy_ov (ov_ar rfl rfl rfl ?_ ?_) rfl rfl ?_; omega; omega)) | (refine gK ?_; refine sy_ov (ov_len rfl) rfl rfl ?_) | (refine sy_ov (ov_pick_t rfl rfl ?_) rfl rfl ?_; focus (with_reducible rfl)) | (refine sy_ov (ov_pick_f rfl rfl ?_) rfl rfl ?_; focus (with_reducible rfl)) | refine sy_ov (ov_pick rfl rfl rfl) rfl rfl ?_ | (refine sy_ov (ov_index rfl rfl ?_ ?_) rfl rfl ?_; omega; omega) | (refine sy_alloc rfl rfl rfl ?_; intro _)) | (refine sy_cond_f rfl ?_ ?_; focus (first | with_reducible rfl | assumption | omega | (simp <;> first | omega | assumption))))
              refine sy_ov (ov_call rfl (fun w _ => rdtake_c s (i + 1) v e 0 p ht (by omega) (by omega) (by omega) w)) rfl rfl ?_
              repeat (first | refine sy_k rfl rfl ?_ | (refine gO ?_; first | refine sy_ov (ov_p rfl) rfl rfl ?_ | (refine gG ?_; (refine sy_guard_yes rfl rfl rfl rfl rfl ?_ ?_; focus (first | with_reducible rfl | assumption | omega | (simp <;> first | omega | assumption)))) | (refine gK ?_; refine sy_ov (ov_len rfl) rfl rfl ?_) | (refine gL ?_; refine sy_ov (ov_ld 0 rfl rfl rfl) rfl rfl ?_) | (refine gS ?_; refine sy_store 0 rfl rfl rfl rfl rfl rfl rfl rfl ?_) | (refine sy_ov (ov_pick_t rfl rfl ?_) rfl rfl ?_; focus (with_reducible rfl)) | (refine sy_ov (ov_pick_f rfl rfl ?_) rfl rfl ?_; focus (with_reducible rfl)) | refine sy_ov (ov_fieldAddr rfl rfl rfl) rfl rfl ?_ | (refine sy_ov (ov_index rfl rfl ?_ ?_) rfl rfl ?_; omega; omega) | refine sy_ov (ov_build rfl rfl rfl) rfl rfl ?_ | (refine sy_alloc rfl rfl rfl ?_; intro _)) | (refine sy_cond_t rfl ?_ ?_; focus (first | with_reducible rfl | assumption | omega | (simp <;> first | omega | assumption))) | (refine sy_cond_f rfl ?_ ?_; focus (first | with_reducible rfl | assumption | omega | (simp <;> first | omega | assumption))))
              refine sy_drawE _ 4 [(0, false), (1, false), (2, true), (3, false)] (by kernel_rfl) rfl (sk (sk (sd sr))) ?_
              repeat (first | refine dre_rd (fun _ _ => ov_p rfl) rfl ?_ | refine dre_rd (fun _ _ => ov_ld 0 rfl rfl rfl) rfl ?_ | refine dre_rd (fun _ _ => ov_build rfl rfl rfl) rfl ?_ | (refine dre_ef rfl ?_; refine sy_store 2 rfl rfl rfl rfl rfl rfl rfl rfl ?_; refine dre_ek (by first | exact sr | exact sk sr | (repeat first | exact sr | apply sk | apply sd)) ?_) | refine dre_end ?_)
              repeat (first | refine sy_k rfl rfl ?_ | (refine gO ?_; (refine gS ?_; refine sy_store 1 rfl rfl rfl rfl rfl rfl rfl rfl ?_)) | refine sy_rt ?_)
              exact ret_ctc 2 1 rfl rfl rfl rfl rfl rfl rfl rfl rfl rfl (by rw [hi]; rw [rdV1]; (focus (refine tup3 rfl rfl (congrArg (faultV _) ?_); omega)); first | assumption | decide)
    · have hi := j1 hf
      refine start _ (fun c1 c2 => ?_) (fun c1 => ?_)
      all_goals
        refine sy_enter rfl rfl ?_
        simp only [initFr]
        repeat (first | refine sy_k rfl rfl ?_ | (refine gO ?_; first | refine sy_ov (ov_p rfl) rfl rfl ?_ | (refine gG ?_; first | (refine sy_guard_yes rfl rfl rfl rfl rfl ?_ ?_; focus (first | with_reducible rfl | assumption | omega | (simp <;> first | omega | assumption))) | (refine sy_guard_no rfl rfl rfl rfl rfl ?_ ?_; focus (first | with_reducible rfl | assumption | omega | (simp <;> first | omega | assumption)))) | (refine gB ?_; (refine sy_ov (ov_ar rfl rfl rfl ?_ ?_) rfl rfl ?_; omega; omega)) | (refine gK ?_; refine sy_ov (ov_len rfl) rfl rfl ?_) | (refine sy_ov (ov_pick_t rfl rfl ?_) rfl rfl ?_; focus (with_reducible rfl)) | (refine sy_ov (ov_pick_f rfl rfl ?_) rfl rfl ?_; focus (with_reducible rfl)) | refine sy_ov (ov_pick rfl rfl rfl) rfl rfl ?_ | (refine sy_ov (ov_index rfl rfl ?_ ?_) rfl rfl ?_; omega; omega) | (refine sy_alloc rfl rfl rfl ?_; intro _)) | (refine sy_cond_f rfl ?_ ?_; focus (first | with_reducible rfl | assumption | omega | (simp <;> first | omega | assumption))))
        refine sy_ov (ov_call rfl (fun w _ => rdtake_c s (i + 1) v e f p ht (by omega) (by omega) (by omega) w)) rfl rfl ?_
        repeat (first | refine sy_k rfl rfl ?_ | (refine gO ?_; first | refine sy_ov (ov_p rfl) rfl rfl ?_ | (refine gG ?_; first | refine sy_guard_undef rfl rfl rfl rfl rfl ?_ | (refine sy_guard_no rfl rfl rfl rfl rfl ?_ ?_; focus (first | with_reducible rfl | assumption | omega | (simp <;> first | omega | assumption)))) | (refine gL ?_; refine sy_ov (ov_ld 0 rfl rfl rfl) rfl rfl ?_) | (refine gS ?_; refine sy_store 0 rfl rfl rfl rfl rfl rfl rfl rfl ?_) | refine sy_ov (ov_pick rfl rfl rfl) rfl rfl ?_ | refine sy_ov (ov_fieldAddr rfl rfl rfl) rfl rfl ?_ | (refine sy_alloc rfl rfl rfl ?_; intro _)) | (refine sy_cond_t rfl ?_ ?_; focus (first | with_reducible rfl | assumption | omega | (simp <;> first | omega | assumption))) | (refine sy_cond_f rfl ?_ ?_; focus (first | with_reducible rfl | assumption | omega | (simp <;> first | omega | assumption))))
        refine sy_drawE _ 4 [(0, false), (1, false), (2, true), (3, false)] (by kernel_rfl) rfl (sk (sk (sd sr))) ?_
        repeat (first | refine dre_rd (fun _ _ => ov_p rfl) rfl ?_ | refine dre_rd (fun _ _ => ov_ld 0 rfl rfl rfl) rfl ?_ | refine dre_rd (fun _ _ => ov_build rfl rfl rfl) rfl ?_ | (refine dre_ef rfl ?_; refine sy_store 2 rfl rfl rfl rfl rfl rfl rfl rfl ?_; refine dre_ek (by first | exact sr | exact sk sr | (repeat first | exact sr | apply sk | apply sd)) ?_) | refine dre_end ?_)
        repeat (first | refine sy_k rfl rfl ?_ | (refine gO ?_; (refine gS ?_; refine sy_store 1 rfl rfl rfl rfl rfl rfl rfl rfl ?_)) | refine sy_rt ?_)
        exact ret_ctc 2 1 rfl rfl rfl rfl rfl rfl rfl rfl rfl rfl (by rw [hi]; rw [rdV1]; (focus (refine tup3 rfl rfl (congrArg (faultV _) ?_); omega)); first | assumption | decide)
  by_cases c1 : i + 1 < s.length
  · by_cases c2 : bt s (i + 1) = 93
    · have hi := i1 c1 c2
      refine sy_enter rfl rfl ?_
      simp only [initFr]
      repeat (first | refine sy_k rfl rfl ?_ | (refine gO ?_; first | refine sy_ov (ov_p rfl) rfl rfl ?_ | (refine gG ?_; (refine sy_guard_yes rfl rfl rfl rfl rfl ?_ ?_; focus (first | with_reducible rfl | assumption | omega | (simp <;> first | omega | assumption)))) | (refine gB ?_; (refine sy_ov (ov_ar rfl rfl rfl ?_ ?_) rfl rfl ?_; omega; omega)) | (refine gK ?_; refine sy_ov (ov_len rfl) rfl rfl ?_) | (refine gS ?_; first | refine sy_store 0 rfl rfl rfl rfl rfl rfl rfl rfl ?_ | refine sy_store 1 rfl rfl rfl rfl rfl rfl rfl rfl ?_) | (refine sy_ov (ov_pick_t rfl rfl ?_) rfl rfl ?_; focus (with_reducible rfl)) | (refine sy_ov (ov_pick_f rfl rfl ?_) rfl rfl ?_; focus (with_reducible rfl)) | (refine sy_ov (ov_index rfl rfl ?_ ?_) rfl rfl ?_; omega; omega) | refine sy_ov (ov_build rfl rfl rfl) rfl rfl ?_ | (refine sy_alloc rfl rfl rfl ?_; intro _)) | (refine sy_cond_t rfl ?_ ?_; focus (first | with_reducible rfl | assumption | omega | (simp <;> first | omega | assumption))) | (refine sy_cond_f rfl ?_ ?_; focus (first | with_reducible rfl | assumption | omega | (simp <;> first | omega | assumption))) | refine sy_rt ?_)
      exact ret_ctc 1 0 rfl rfl rfl rfl rfl rfl rfl rfl rfl rfl (by rw [hi]; rw [rdV0]; refine tup3 rfl ?_ rfl; omega)
    · exact tail (fun h => c2 h.2)
  · exact tail (fun h => c1 h.1)
set_option maxRecDepth 20000 in
set_option maxHeartbeats 1000000 in
theorem rstep_c (s : List UInt8) (i : Int) (h0 : 0 ≤ i) (h1 : i < s.length) (hs : s.length ≤ 4611686018427387000) (w : World) :
    Calls Try.prog 82 #[S s, .int .i64 i] w fun x w' => x = .returned (rdV i (stepL (s.drop i.toNat))) ∧ Below w.heap.size w w' := by
  rw [stepL_at s i h0 h1]
  by_cases c1 : bt s i = 46
  · rw [if_pos c1]; exact rstep_named s i 1 h0 h1 hs w (.inl ⟨c1, rfl⟩)
  · rw [if_neg c1]
    by_cases c2 : bt s i = 33
    · rw [if_pos c2]; exact rstep_named s i 5 h0 h1 hs w (.inr ⟨c2, rfl⟩)
    · rw [if_neg c2]
      by_cases c3 : bt s i = 91
      · rw [if_pos c3]; exact rstep_item s i h0 h1 hs w c3
      · rw [if_neg c3]
        by_cases c4 : bt s i = 63
        · rw [if_pos c4]
          refine sy_enter rfl rfl ?_
          simp only [initFr]
          repeat (first | refine sy_k rfl rfl ?_ | (refine gO ?_; first | refine sy_ov (ov_p rfl) rfl rfl ?_ | (refine gG ?_; (refine sy_guard_yes rfl rfl rfl rfl rfl ?_ ?_; focus (first | with_reducible rfl | assumption | omega | (simp <;> first | omega | assumption)))) | (refine gB ?_; (refine sy_ov (ov_ar rfl rfl rfl ?_ ?_) rfl rfl ?_; omega; omega)) | (refine gS ?_; first | refine sy_store 0 rfl rfl rfl rfl rfl rfl rfl rfl ?_ | refine sy_store 1 rfl rfl rfl rfl rfl rfl rfl rfl ?_) | (refine sy_ov (ov_pick_f rfl rfl ?_) rfl rfl ?_; focus (with_reducible rfl)) | (refine sy_ov (ov_index rfl rfl ?_ ?_) rfl rfl ?_; omega; omega) | refine sy_ov (ov_build rfl rfl rfl) rfl rfl ?_ | (refine sy_alloc rfl rfl rfl ?_; intro _)) | (refine sy_cond_t rfl ?_ ?_; focus (first | with_reducible rfl | assumption | omega | (simp <;> first | omega | assumption))) | (refine sy_cond_f rfl ?_ ?_; focus (first | with_reducible rfl | assumption | omega | (simp <;> first | omega | assumption))) | refine sy_rt ?_)
          exact ret_ctc 1 0 rfl rfl rfl rfl rfl rfl rfl rfl rfl rfl (by rw [rdV0]; refine tup3 rfl ?_ rfl; omega)
        · rw [if_neg c4]
          refine sy_enter rfl rfl ?_
          simp only [initFr]
          repeat (first | refine sy_k rfl rfl ?_ | (refine gO ?_; first | refine sy_ov (ov_p rfl) rfl rfl ?_ | (refine gG ?_; (refine sy_guard_yes rfl rfl rfl rfl rfl ?_ ?_; focus (first | with_reducible rfl | assumption | omega | (simp <;> first | omega | assumption)))) | (refine gS ?_; first | refine sy_store 0 rfl rfl rfl rfl rfl rfl rfl rfl ?_ | refine sy_store 1 rfl rfl rfl rfl rfl rfl rfl rfl ?_) | (refine sy_ov (ov_pick_f rfl rfl ?_) rfl rfl ?_; focus (with_reducible rfl)) | (refine sy_ov (ov_index rfl rfl ?_ ?_) rfl rfl ?_; omega; omega) | refine sy_ov (ov_build rfl rfl rfl) rfl rfl ?_ | (refine sy_alloc rfl rfl rfl ?_; intro _)) | (refine sy_cond_t rfl ?_ ?_; focus (first | with_reducible rfl | assumption | omega | (simp <;> first | omega | assumption))) | (refine sy_cond_f rfl ?_ ?_; focus (first | with_reducible rfl | assumption | omega | (simp <;> first | omega | assumption))) | refine sy_rt ?_)
          exact ret_ctc 1 0 rfl rfl rfl rfl rfl rfl rfl rfl rfl rfl (by rw [rdV1]; (focus (refine tup3 rfl rfl (congrArg (faultV _) ?_); omega)); first | assumption | decide)
end Go.Proofs.Yteddjadeenimkaa
