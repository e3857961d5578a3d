/- Contracts: Right, Format of both; the comparison of paths. -/
import Derived.Test.YteddjadeenimkaaPaths4Q
import Derived.Test.YteddjadeenimkaaBEN
import Derived.Test.YteddjadeenimkaaBldQ
set_option linter.unusedVariables false
set_option linter.unusedSimpArgs false
namespace Go.Proofs.Yteddjadeenimkaa
open Go.RowKit Bf
theorem stepB_named (k n : Int) (s : List UInt8) (h : k = 1 ∨ k = 5) : stepB (k, n, s) = (decide (n = 0) && namB s) := by unfold stepB; rw [if_pos h]
theorem stepB_item (n : Int) (s : List UInt8) : stepB (2, n, s) = (decide (0 ≤ n) && decide (s = [])) := rfl
theorem stepB_bare (k n : Int) (s : List UInt8) (h : k = 3 ∨ k = 4) : stepB (k, n, s) = (decide (n = 0) && decide (s = [])) := by rcases h with rfl | rfl <;> rfl
theorem stepB_else (k n : Int) (s : List UInt8) (h1 : k ≠ 1) (h2 : k ≠ 2) (h3 : k ≠ 3) (h4 : k ≠ 4) (h5 : k ≠ 5) : stepB (k, n, s) = false := by
  unfold stepB; rw [if_neg (by simp [h1, h5]), if_neg h2, if_neg (by simp [h3, h4])]
set_option maxRecDepth 20000 in
set_option maxHeartbeats 2000000 in
theorem pright1_c (k n : Int) (s : List UInt8) (hs' : s.length ≤ 9223372036854775807) (w : World) : Calls Try.prog 84 #[.agg ⟨stpV (k, n, s)⟩] w fun e w' => e = .returned (.bool (stepB (k, n, s))) ∧ Below w.heap.size w w' := by
  have named : (k = 1 ∨ k = 5) → Calls Try.prog 84 #[.agg ⟨stpV (k, n, s)⟩] w fun e w' => e = .returned (.bool (stepB (k, n, s))) ∧ Below w.heap.size w w' := by
    intro hk
    rw [stepB_named k n s hk]
    by_cases hn : n = 0
    · by_cases he : s = []
      · rcases hk with rfl | rfl
        all_goals
          refine sy_enter rfl rfl ?_
          simp only [initFr]
          repeat (first | refine sy_k rfl rfl ?_ | (refine gO ?_; first | refine sy_ov (ov_p rfl) rfl rfl ?_ | (refine gG ?_; (refine sy_guard_yes rfl rfl rfl rfl rfl ?_ ?_; focus (first | with_reducible rfl | assumption | omega | (simp <;> first | omega | assumption)))) | (refine gL ?_; refine sy_ov (ov_ld 0 rfl rfl rfl) rfl rfl ?_) | (refine sy_ov (ov_pick_t rfl rfl ?_) rfl rfl ?_; focus (with_reducible rfl)) | refine sy_ov (ov_fieldAddr rfl rfl rfl) rfl rfl ?_ | (refine sy_box rfl rfl rfl ?_; intro _)) | (refine sy_cond_t rfl ?_ ?_; focus (first | with_reducible rfl | assumption | omega | (simp <;> first | omega | assumption))) | (refine sy_cond_f rfl ?_ ?_; focus (first | with_reducible rfl | assumption | omega | (simp <;> first | omega | assumption))))
          refine sy_ov (ov_call rfl (fun w _ => right_c s _ rfl hs' w)) rfl rfl ?_
          repeat (first | refine sy_k rfl rfl ?_ | (refine gO ?_; first | refine sy_ov (ov_p rfl) rfl rfl ?_ | (refine sy_ov (ov_pick_t rfl rfl ?_) rfl rfl ?_; focus (with_reducible rfl))) | refine sy_rt ?_)
          exact ret1 rfl rfl (by simp [hn])
      · rcases hk with rfl | rfl
        all_goals
          refine sy_enter rfl rfl ?_
          simp only [initFr]
          repeat (first | refine sy_k rfl rfl ?_ | (refine gO ?_; first | refine sy_ov (ov_p rfl) rfl rfl ?_ | (refine gG ?_; (refine sy_guard_yes rfl rfl rfl rfl rfl ?_ ?_; focus (first | with_reducible rfl | assumption | omega | (simp <;> first | omega | assumption)))) | (refine gL ?_; refine sy_ov (ov_ld 0 rfl rfl rfl) rfl rfl ?_) | (refine sy_ov (ov_pick_t rfl rfl ?_) rfl rfl ?_; focus (with_reducible rfl)) | refine sy_ov (ov_fieldAddr rfl rfl rfl) rfl rfl ?_ | (refine sy_box rfl rfl rfl ?_; intro _)) | (refine sy_cond_t rfl ?_ ?_; focus (first | with_reducible rfl | assumption | omega | (simp <;> first | omega | assumption))) | (refine sy_cond_f rfl ?_ ?_; focus (first | with_reducible rfl | assumption | omega | (simp <;> first | omega | assumption))))
          refine sy_ov (ov_call rfl (fun w _ => right_c s _ rfl hs' w)) rfl rfl ?_
          repeat (first | refine sy_k rfl rfl ?_ | (refine gO ?_; first | refine sy_ov (ov_p rfl) rfl rfl ?_ | (refine sy_ov (ov_pick_t rfl rfl ?_) rfl rfl ?_; focus (with_reducible rfl))) | refine sy_rt ?_)
          exact ret1 rfl rfl (by simp [hn])
    · rcases hk with rfl | rfl
      all_goals
        refine sy_enter rfl rfl ?_
        simp only [initFr]
        repeat (first | refine sy_k rfl rfl ?_ | (refine gO ?_; first | refine sy_ov (ov_p rfl) rfl rfl ?_ | (refine gG ?_; (refine sy_guard_no rfl rfl rfl rfl rfl ?_ ?_; focus (first | with_reducible rfl | assumption | omega | (simp <;> first | omega | assumption)))) | (refine gL ?_; refine sy_ov (ov_ld 0 rfl rfl rfl) rfl rfl ?_) | refine sy_ov (ov_pick rfl rfl rfl) rfl rfl ?_ | refine sy_ov (ov_fieldAddr rfl rfl rfl) rfl rfl ?_ | (refine sy_box rfl rfl rfl ?_; intro _)) | (refine sy_cond_t rfl ?_ ?_; focus (first | with_reducible rfl | assumption | omega | (simp <;> first | omega | assumption))) | (refine sy_cond_f rfl ?_ ?_; focus (first | with_reducible rfl | assumption | omega | (simp <;> first | omega | assumption))) | refine sy_rt ?_)
        exact ret1 rfl rfl (by simp [hn])
  by_cases h1 : k = 1
  · exact named (.inl h1)
  · by_cases h5 : k = 5
    · exact named (.inr h5)
    · by_cases h2 : k = 2
      · subst h2
        rw [stepB_item]
        by_cases hn : n = 0
        · by_cases hz : 0 ≤ n
          · refine sy_enter rfl rfl ?_
            simp only [initFr]
            repeat (first | refine sy_k rfl rfl ?_ | (refine gO ?_; first | refine sy_ov (ov_p rfl) rfl rfl ?_ | (refine gG ?_; (refine sy_guard_yes rfl rfl rfl rfl rfl ?_ ?_; focus (first | with_reducible rfl | assumption | omega | (simp <;> first | omega | assumption)))) | (refine gL ?_; refine sy_ov (ov_ld 0 rfl rfl rfl) rfl rfl ?_) | (refine sy_ov (ov_pick_t rfl rfl ?_) rfl rfl ?_; focus (with_reducible rfl)) | refine sy_ov (ov_fieldAddr rfl rfl rfl) rfl rfl ?_ | (refine sy_box rfl rfl rfl ?_; intro _)) | (refine sy_cond_t rfl ?_ ?_; focus (first | with_reducible rfl | assumption | omega | (simp <;> first | omega | assumption))) | (refine sy_cond_f rfl ?_ ?_; focus (first | with_reducible rfl | assumption | omega | (simp <;> first | omega | assumption))) | refine sy_rt ?_)
            exact ret1 rfl rfl (by simp [hz])
          · omega
        · by_cases hz : 0 ≤ n
          · refine sy_enter rfl rfl ?_
            simp only [initFr]
            repeat (first | refine sy_k rfl rfl ?_ | (refine gO ?_; first | refine sy_ov (ov_p rfl) rfl rfl ?_ | (refine gG ?_; first | (refine sy_guard_yes rfl rfl rfl rfl rfl ?_ ?_; focus (first | with_reducible rfl | assumption | omega | (simp <;> first | omega | assumption))) | (refine sy_guard_no rfl rfl rfl rfl rfl ?_ ?_; focus (first | with_reducible rfl | assumption | omega | (simp <;> first | omega | assumption)))) | (refine gL ?_; refine sy_ov (ov_ld 0 rfl rfl rfl) rfl rfl ?_) | (refine sy_ov (ov_pick_t rfl rfl ?_) rfl rfl ?_; focus (with_reducible rfl)) | refine sy_ov (ov_pick rfl rfl rfl) rfl rfl ?_ | refine sy_ov (ov_fieldAddr rfl rfl rfl) rfl rfl ?_ | (refine sy_box rfl rfl rfl ?_; intro _)) | (refine sy_cond_t rfl ?_ ?_; focus (first | with_reducible rfl | assumption | omega | (simp <;> first | omega | assumption))) | (refine sy_cond_f rfl ?_ ?_; focus (first | with_reducible rfl | assumption | omega | (simp <;> first | omega | assumption))) | refine sy_rt ?_)
            exact ret1 rfl rfl (by simp [hz])
          · refine sy_enter rfl rfl ?_
            simp only [initFr]
            repeat (first | refine sy_k rfl rfl ?_ | (refine gO ?_; first | refine sy_ov (ov_p rfl) rfl rfl ?_ | (refine gG ?_; (refine sy_guard_no rfl rfl rfl rfl rfl ?_ ?_; focus (first | with_reducible rfl | assumption | omega | (simp <;> first | omega | assumption)))) | (refine gL ?_; refine sy_ov (ov_ld 0 rfl rfl rfl) rfl rfl ?_) | refine sy_ov (ov_pick rfl rfl rfl) rfl rfl ?_ | refine sy_ov (ov_fieldAddr rfl rfl rfl) rfl rfl ?_ | (refine sy_box rfl rfl rfl ?_; intro _)) | (refine sy_cond_t rfl ?_ ?_; focus (first | with_reducible rfl | assumption | omega | (simp <;> first | omega | assumption))) | (refine sy_cond_f rfl ?_ ?_; focus (first | with_reducible rfl | assumption | omega | (simp <;> first | omega | assumption))) | refine sy_rt ?_)
            exact ret1 rfl rfl (by simp [hz])
      · by_cases h34 : k = 3 ∨ k = 4
        · rw [stepB_bare k n s h34]
          by_cases hn : n = 0
          · rcases h34 with rfl | rfl
            all_goals
              refine sy_enter rfl rfl ?_
              simp only [initFr]
              repeat (first | refine sy_k rfl rfl ?_ | (refine gO ?_; first | refine sy_ov (ov_p rfl) rfl rfl ?_ | (refine gG ?_; (refine sy_guard_yes rfl rfl rfl rfl rfl ?_ ?_; focus (first | with_reducible rfl | assumption | omega | (simp <;> first | omega | assumption)))) | (refine gL ?_; refine sy_ov (ov_ld 0 rfl rfl rfl) rfl rfl ?_) | (refine sy_ov (ov_pick_t rfl rfl ?_) rfl rfl ?_; focus (with_reducible rfl)) | refine sy_ov (ov_fieldAddr rfl rfl rfl) rfl rfl ?_ | (refine sy_box rfl rfl rfl ?_; intro _)) | (refine sy_cond_t rfl ?_ ?_; focus (first | with_reducible rfl | assumption | omega | (simp <;> first | omega | assumption))) | (refine sy_cond_f rfl ?_ ?_; focus (first | with_reducible rfl | assumption | omega | (simp <;> first | omega | assumption))) | refine sy_rt ?_)
              exact ret1 rfl rfl (by simp [hn])
          · rcases h34 with rfl | rfl
            all_goals
              refine sy_enter rfl rfl ?_
              simp only [initFr]
              repeat (first | refine sy_k rfl rfl ?_ | (refine gO ?_; first | refine sy_ov (ov_p rfl) rfl rfl ?_ | (refine gG ?_; (refine sy_guard_no rfl rfl rfl rfl rfl ?_ ?_; focus (first | with_reducible rfl | assumption | omega | (simp <;> first | omega | assumption)))) | (refine gL ?_; refine sy_ov (ov_ld 0 rfl rfl rfl) rfl rfl ?_) | refine sy_ov (ov_pick rfl rfl rfl) rfl rfl ?_ | refine sy_ov (ov_fieldAddr rfl rfl rfl) rfl rfl ?_ | (refine sy_box rfl rfl rfl ?_; intro _)) | (refine sy_cond_t rfl ?_ ?_; focus (first | with_reducible rfl | assumption | omega | (simp <;> first | omega | assumption))) | (refine sy_cond_f rfl ?_ ?_; focus (first | with_reducible rfl | assumption | omega | (simp <;> first | omega | assumption))) | refine sy_rt ?_)
              exact ret1 rfl rfl (by simp [hn])
        · have h3 : k ≠ 3 := fun h => h34 (.inl h)
          have h4 : k ≠ 4 := fun h => h34 (.inr h)
          rw [stepB_else k n s h1 h2 h3 h4 h5]
          by_cases hn : n = 0
          · refine sy_enter rfl rfl ?_
            simp only [initFr]
            repeat (first | refine sy_k rfl rfl ?_ | (refine gO ?_; first | refine sy_ov (ov_p rfl) rfl rfl ?_ | (refine gG ?_; (refine sy_guard_yes rfl rfl rfl rfl rfl ?_ ?_; focus (first | with_reducible rfl | assumption | omega | (simp <;> first | omega | assumption)))) | (refine gL ?_; refine sy_ov (ov_ld 0 rfl rfl rfl) rfl rfl ?_) | (refine sy_ov (ov_pick_t rfl rfl ?_) rfl rfl ?_; focus (with_reducible rfl)) | refine sy_ov (ov_fieldAddr rfl rfl rfl) rfl rfl ?_ | (refine sy_box rfl rfl rfl ?_; intro _)) | (refine sy_cond_f rfl ?_ ?_; focus (first | with_reducible rfl | assumption | omega | (simp <;> first | omega | assumption))) | refine sy_rt ?_)
            exact ret1 rfl rfl rfl
          · refine sy_enter rfl rfl ?_
            simp only [initFr]
            repeat (first | refine sy_k rfl rfl ?_ | (refine gO ?_; first | refine sy_ov (ov_p rfl) rfl rfl ?_ | (refine gG ?_; (refine sy_guard_no rfl rfl rfl rfl rfl ?_ ?_; focus (first | with_reducible rfl | assumption | omega | (simp <;> first | omega | assumption)))) | (refine gL ?_; refine sy_ov (ov_ld 0 rfl rfl rfl) rfl rfl ?_) | refine sy_ov (ov_pick rfl rfl rfl) rfl rfl ?_ | refine sy_ov (ov_fieldAddr rfl rfl rfl) rfl rfl ?_ | (refine sy_box rfl rfl rfl ?_; intro _)) | (refine sy_cond_f rfl ?_ ?_; focus (first | with_reducible rfl | assumption | omega | (simp <;> first | omega | assumption))) | refine sy_rt ?_)
            exact ret1 rfl rfl rfl
theorem all_take_succ (l : List StepT) (j : Nat) (x : StepT) (h : l[j]? = some x) : (l.take (j + 1)).all stepB = ((l.take j).all stepB && stepB x) := by
  have hlt := (List.getElem?_eq_some_iff.1 h).1
  have hx := (List.getElem?_eq_some_iff.1 h).2
  rw [List.take_succ_eq_append_getElem hlt, List.all_append, hx]; simp
theorem all_stop (l : List StepT) (j : Nat) (x : StepT) (h : l[j]? = some x) (hx : stepB x = false) : l.all stepB = false := by
  rw [List.all_eq_false]; exact ⟨x, List.mem_of_getElem? h, by simp [hx]⟩
theorem steps_get (l : List StepT) (i : Int) (n : Nat) (hl : l.length = n) (h0 : 0 ≤ i) (h1 : i < n) : ∃ k m s, l[i.toNat]? = some (k, m, s) := by
  have : i.toNat < l.length := by omega
  exact ⟨_, _, _, List.getElem?_eq_getElem this⟩
set_option maxRecDepth 20000 in
set_option maxHeartbeats 2000000 in
theorem pright_c (w : World) (p : Option Addr) (n c : Nat) (l : List StepT) (hl : l.length = n) (hn : n ≤ 4611686018427387000) (hs : IsSl w 3 p n (l.flatMap stpV)) (ho : ∀ y ∈ l, StepOk y) :
    Calls Try.prog 32 #[.slice p n c] w fun e w' => e = .returned (.bool (pathB l)) ∧ Below w.heap.size w w' := by
  have hst : St (fun _ => False) w (fun w => IsSl w 3 p n (l.flatMap stpV)) := St.start (IsSl.bl _ _ _ _) hs
  by_cases h64 : 64 < (n : Int)
  · refine sy_enter rfl rfl ?_
    simp only [initFr]
    repeat (first | refine sy_k rfl rfl ?_ | (refine gO ?_; first | refine sy_ov (ov_p rfl) rfl rfl ?_ | (refine gK ?_; refine sy_ov (ov_lens rfl) rfl rfl ?_)) | (refine sy_cond_t rfl ?_ ?_; focus (first | with_reducible rfl | assumption | omega | (simp <;> first | omega | assumption))) | refine sy_rt ?_)
    exact ret1 rfl rfl (by unfold pathB; simp; omega)
  · refine sy_enter rfl rfl ?_
    simp only [initFr]
    repeat (first | refine sy_k rfl rfl ?_ | (refine gO ?_; first | refine sy_ov (ov_p rfl) rfl rfl ?_ | (refine gK ?_; refine sy_ov (ov_lens rfl) rfl rfl ?_)) | (refine sy_cond_f rfl ?_ ?_; focus (first | with_reducible rfl | assumption | omega | (simp <;> first | omega | assumption))))
    refine sy_loop (α := Int) (fun i => [(8, .slice p n c), (9, .int .i64 (n : Int)), (10, .int .i64 i)]) (fun _ => []) (fun i => 0 ≤ i ∧ i ≤ n ∧ (l.take i.toNat).all stepB = true) (fun i => (n - i).toNat) 0 ⟨by omega, by omega, by simp⟩ ⟨⟨_, rfl, rfl⟩, ⟨_, rfl, rfl⟩, ⟨_, rfl, rfl⟩, trivial⟩ (List.nil_sublist _) ?_
    rintro i ⟨i0, i1, i2⟩
    by_cases hlt : i < n
    · obtain ⟨k, m, s, hx⟩ := steps_get l i n hl i0 hlt
      obtain ⟨b, off, hp, hat⟩ := hst.addr (by omega)
      subst hp
      have hok := ho _ (List.mem_of_getElem? hx)
      repeat (first | refine sy_k rfl rfl ?_ | (refine gO ?_; first | refine sy_ov (ov_p rfl) rfl rfl ?_ | (refine sy_ov (ov_indexAddr rfl rfl ?_ ?_) rfl rfl ?_; omega; omega)) | (refine sy_cond_t rfl ?_ ?_; focus (first | with_reducible rfl | assumption | omega | (simp <;> first | omega | assumption))))
      refine sy_ov (ov_elem (f := stpV) hat hx rfl rfl (fun _ => rfl)) rfl rfl ?_
      repeat (first | refine sy_k rfl rfl ?_ | (refine gO ?_; first | (refine gL ?_; refine sy_ov (ov_ld 0 rfl rfl rfl) rfl rfl ?_) | (refine gS ?_; refine sy_store 0 rfl rfl rfl rfl rfl rfl rfl rfl ?_) | (refine sy_alloc rfl rfl rfl ?_; intro _)))
      obtain ⟨x, hxb⟩ : ∃ x, stepB (k, m, s) = x := ⟨_, rfl⟩
      have hc := pright1_c k m s (by have := hok.2.2; unfold maxLen at this; simpa using this)
      rw [hxb] at hc
      refine sy_ov (ov_call rfl (fun w _ => hc w)) rfl rfl ?_
      cases x with
      | true =>
        repeat (first | refine sy_k rfl rfl ?_ | (refine gO ?_; first | refine sy_ov (ov_p rfl) rfl rfl ?_ | (refine gB ?_; (refine sy_ov (ov_ar rfl rfl rfl ?_ ?_) rfl rfl ?_; omega; omega))) | (refine sy_cond_f rfl ?_ ?_; focus (first | with_reducible rfl | assumption | omega | (simp <;> first | omega | assumption))))
        refine sy_back (i + 1) ⟨by omega, by omega, by rw [show (i + 1).toNat = i.toNat + 1 by omega, all_take_succ l _ _ hx, i2, hxb]; rfl⟩ (by omega) ⟨⟨_, rfl, rfl⟩, ⟨_, rfl, rfl⟩, ⟨_, rfl, rfl⟩, trivial⟩ (List.nil_sublist _)
      | false =>
        repeat (first | refine sy_k rfl rfl ?_ | (refine gO ?_; refine sy_ov (ov_p rfl) rfl rfl ?_) | (refine sy_cond_t rfl ?_ ?_; focus (first | with_reducible rfl | assumption | omega | (simp <;> first | omega | assumption))) | refine sy_rt ?_)
        exact ret1 rfl rfl (by unfold pathB; rw [all_stop l _ _ hx hxb]; simp)
    · repeat (first | refine sy_k rfl rfl ?_ | (refine gO ?_; refine sy_ov (ov_p rfl) rfl rfl ?_) | (refine sy_cond_f rfl ?_ ?_; focus (first | with_reducible rfl | assumption | omega | (simp <;> first | omega | assumption))) | refine sy_rt ?_)
      rw [List.take_of_length_le (by omega)] at i2
      exact ret1 rfl rfl (by unfold pathB; rw [i2]; simp; omega)
set_option maxRecDepth 20000 in
set_option maxHeartbeats 2000000 in
theorem ptext_c (k n : Int) (s : List UInt8) (hn : -9223372036854775808 ≤ n ∧ n ≤ 9223372036854775807) (hs : s.length ≤ 1000000) (w : World) : Calls Try.prog 86 #[.agg ⟨stpV (k, n, s)⟩] w fun e w' => e = .returned (S (stepX (k, n, s))) ∧ Below w.heap.size w w' := by
  have hp := putL_len n hn
  by_cases h1 : k = 1
  · subst h1
    refine sy_enter rfl rfl ?_
    simp only [initFr]
    repeat (first | refine sy_k rfl rfl ?_ | (refine gO ?_; first | refine sy_ov (ov_p rfl) rfl rfl ?_ | (refine gB ?_; (refine sy_ov (ov_cat rfl rfl ?_) rfl rfl ?_; focus (first | omega | (simp <;> omega)))) | (refine gL ?_; refine sy_ov (ov_ld 0 rfl rfl rfl) rfl rfl ?_) | refine sy_ov (ov_fieldAddr rfl rfl rfl) rfl rfl ?_ | (refine sy_box rfl rfl rfl ?_; intro _)) | (refine sy_cond_t rfl ?_ ?_; focus (first | with_reducible rfl | assumption | omega | (simp <;> first | omega | assumption))) | refine sy_rt ?_)
    exact ret1 rfl rfl rfl
  · by_cases h2 : k = 2
    · subst h2
      refine sy_enter rfl rfl ?_
      simp only [initFr]
      repeat (first | refine sy_k rfl rfl ?_ | (refine gO ?_; first | refine sy_ov (ov_p rfl) rfl rfl ?_ | (refine gL ?_; refine sy_ov (ov_ld 0 rfl rfl rfl) rfl rfl ?_) | refine sy_ov (ov_fieldAddr rfl rfl rfl) rfl rfl ?_ | (refine sy_box rfl rfl rfl ?_; intro _)) | (refine sy_cond_t rfl ?_ ?_; focus (first | with_reducible rfl | assumption | omega | (simp <;> first | omega | assumption))) | (refine sy_cond_f rfl ?_ ?_; focus (first | with_reducible rfl | assumption | omega | (simp <;> first | omega | assumption))))
      refine sy_ov (ov_call rfl (fun w _ => put_c n _ rfl (by omega) (by omega) w)) rfl rfl ?_
      repeat (first | refine sy_k rfl rfl ?_ | (refine gO ?_; first | refine sy_ov (ov_p rfl) rfl rfl ?_ | (refine gB ?_; (refine sy_ov (ov_cat rfl rfl ?_) rfl rfl ?_; focus (first | omega | (simp <;> omega))))) | refine sy_rt ?_)
      exact ret1 rfl rfl (by show S _ = S (91 :: (putL n ++ [93])); simp)
    · by_cases h3 : k = 3
      · subst h3
        refine sy_enter rfl rfl ?_
        simp only [initFr]
        repeat (first | refine sy_k rfl rfl ?_ | (refine gO ?_; first | refine sy_ov (ov_p rfl) rfl rfl ?_ | (refine gL ?_; refine sy_ov (ov_ld 0 rfl rfl rfl) rfl rfl ?_) | refine sy_ov (ov_fieldAddr rfl rfl rfl) rfl rfl ?_ | (refine sy_box rfl rfl rfl ?_; intro _)) | (refine sy_cond_t rfl ?_ ?_; focus (first | with_reducible rfl | assumption | omega | (simp <;> first | omega | assumption))) | (refine sy_cond_f rfl ?_ ?_; focus (first | with_reducible rfl | assumption | omega | (simp <;> first | omega | assumption))) | refine sy_rt ?_)
        exact ret1 rfl rfl rfl
      · by_cases h4 : k = 4
        · subst h4
          refine sy_enter rfl rfl ?_
          simp only [initFr]
          repeat (first | refine sy_k rfl rfl ?_ | (refine gO ?_; first | refine sy_ov (ov_p rfl) rfl rfl ?_ | (refine gL ?_; refine sy_ov (ov_ld 0 rfl rfl rfl) rfl rfl ?_) | refine sy_ov (ov_fieldAddr rfl rfl rfl) rfl rfl ?_ | (refine sy_box rfl rfl rfl ?_; intro _)) | (refine sy_cond_t rfl ?_ ?_; focus (first | with_reducible rfl | assumption | omega | (simp <;> first | omega | assumption))) | (refine sy_cond_f rfl ?_ ?_; focus (first | with_reducible rfl | assumption | omega | (simp <;> first | omega | assumption))) | refine sy_rt ?_)
          exact ret1 rfl rfl rfl
        · have hx : stepX (k, n, s) = 33 :: s := by unfold stepX; rw [if_neg h1, if_neg h2, if_neg h3, if_neg h4]
          rw [hx]
          refine sy_enter rfl rfl ?_
          simp only [initFr]
          repeat (first | refine sy_k rfl rfl ?_ | (refine gO ?_; first | refine sy_ov (ov_p rfl) rfl rfl ?_ | (refine gB ?_; (refine sy_ov (ov_cat rfl rfl ?_) rfl rfl ?_; focus (first | omega | (simp <;> omega)))) | (refine gL ?_; refine sy_ov (ov_ld 0 rfl rfl rfl) rfl rfl ?_) | refine sy_ov (ov_fieldAddr rfl rfl rfl) rfl rfl ?_ | (refine sy_box rfl rfl rfl ?_; intro _)) | (refine sy_cond_f rfl ?_ ?_; focus (first | with_reducible rfl | assumption | omega | (simp <;> first | omega | assumption))) | refine sy_rt ?_)
          exact ret1 rfl rfl rfl
theorem stepX_len (k n : Int) (s : List UInt8) (hn : -9223372036854775808 ≤ n ∧ n ≤ 9223372036854775807) (hs : s.length ≤ 32) : (stepX (k, n, s)).length ≤ 40 := by
  have hp := putL_len n hn
  unfold stepX
  simp only
  split
  · simp; omega
  · split
    · simp; omega
    · split
      · simp
      · split
        · simp
        · simp; omega
theorem stepB_len (k n : Int) (s : List UInt8) (h : stepB (k, n, s) = true) : s.length ≤ 32 := by
  unfold stepB at h
  simp only at h
  split at h
  · simp only [Bool.and_eq_true] at h; exact namB_len s h.2
  · split at h
    · simp only [Bool.and_eq_true, decide_eq_true_eq] at h; rw [h.2]; simp
    · split at h
      · simp only [Bool.and_eq_true, decide_eq_true_eq] at h; rw [h.2]; simp
      · cases h
theorem fmtL_snoc (l : List StepT) (i : Nat) (x : StepT) (h : l[i]? = some x) : fmtL (l.take (i + 1)) = fmtL (l.take i) ++ stepX x := by
  have hlt := (List.getElem?_eq_some_iff.1 h).1
  have hx := (List.getElem?_eq_some_iff.1 h).2
  unfold fmtL
  rw [List.take_succ_eq_append_getElem hlt, List.flatMap_append, hx]; simp
theorem pathB_ok {l : List StepT} (h : pathB l = true) : l.length ≤ 64 ∧ ∀ x ∈ l, stepB x = true := by
  unfold pathB at h
  simp only [Bool.and_eq_true, decide_eq_true_eq] at h
  exact ⟨h.1, List.all_eq_true.1 h.2⟩
structure FmSt where
  i : Int
  v : Value
  acc : List UInt8
set_option maxRecDepth 20000 in
set_option maxHeartbeats 2000000 in
theorem pformat_c (w : World) (p : Option Addr) (n c : Nat) (l : List StepT) (hl : l.length = n) (hn : n ≤ 4611686018427387000) (hs : IsSl w 3 p n (l.flatMap stpV)) (ho : ∀ y ∈ l, StepOk y) (o : List UInt8) (hfm : (if pathB l = true then fmtL l else []) = o) :
    Calls Try.prog 34 #[.slice p n c] w fun e w' => e = .returned (S o) ∧ Below w.heap.size w w' := by
  subst hfm
  have hst : St (fun _ => False) w (fun w => IsSl w 3 p n (l.flatMap stpV)) := St.start (IsSl.bl _ _ _ _) hs
  cases hb : pathB l with
  | false =>
    have hc : ∀ w', IsSl w' 3 p n (l.flatMap stpV) → Calls Try.prog 32 #[.slice p n c] w' fun e w2 => e = .returned (.bool false) ∧ Below w'.heap.size w' w2 := fun w' h => by have := pright_c w' p n c l hl hn h ho; rw [hb] at this; exact this
    refine sy_enter rfl rfl ?_
    simp only [initFr]
    repeat (first | refine sy_k rfl rfl ?_ | (refine gO ?_; refine sy_ov (ov_p rfl) rfl rfl ?_))
    refine sy_ov (ov_call rfl (fun w hw => hc w (hst.at hw))) rfl rfl ?_
    repeat (first | refine sy_k rfl rfl ?_ | (refine gO ?_; refine sy_ov (ov_p rfl) rfl rfl ?_) | (refine sy_cond_t rfl ?_ ?_; focus (first | with_reducible rfl | assumption | omega | (simp <;> first | omega | assumption))) | refine sy_rt ?_)
    exact ret1 rfl rfl rfl
  | true =>
    have hc : ∀ w', IsSl w' 3 p n (l.flatMap stpV) → Calls Try.prog 32 #[.slice p n c] w' fun e w2 => e = .returned (.bool true) ∧ Below w'.heap.size w' w2 := fun w' h => by have := pright_c w' p n c l hl hn h ho; rw [hb] at this; exact this
    obtain ⟨h64, hall⟩ := pathB_ok hb
    refine sy_enter rfl rfl ?_
    simp only [initFr]
    repeat (first | refine sy_k rfl rfl ?_ | (refine gO ?_; refine sy_ov (ov_p rfl) rfl rfl ?_))
    refine sy_ov (ov_call rfl (fun w hw => hc w (hst.at hw))) rfl rfl ?_
    repeat (first | refine sy_k rfl rfl ?_ | (refine gO ?_; first | refine sy_ov (ov_p rfl) rfl rfl ?_ | (refine gK ?_; refine sy_ov (ov_lens rfl) rfl rfl ?_) | (refine sy_alloc rfl rfl rfl ?_; intro _)) | (refine sy_cond_f rfl ?_ ?_; focus (first | with_reducible rfl | assumption | omega | (simp <;> first | omega | assumption))))
    rename_i b
    refine sy_newBld ?_
    skip
    refine sy_loop (α := FmSt) (fun x => [(3, .pointer (some ⟨b, 0, none⟩)), (9, .slice p n c), (10, .int .i64 (n : Int)), (11, .int .i64 x.i)]) (fun x => [bld b x.v x.acc]) (fun x => 0 ≤ x.i ∧ x.i ≤ n ∧ x.acc = fmtL (l.take x.i.toNat) ∧ (x.acc.length : Int) ≤ 40 * x.i) (fun x => (n - x.i).toNat) ⟨0, .slice none 0 0, []⟩ ⟨by simp, by simp, by simp [fmtL], by simp⟩ ⟨⟨_, rfl, rfl⟩, ⟨_, rfl, rfl⟩, ⟨_, rfl, rfl⟩, ⟨_, rfl, rfl⟩, trivial⟩ (List.Sublist.refl _) ?_
    rintro ⟨i, v, acc⟩ ⟨i0, i1, i2, i3⟩
    dsimp only at i0 i1 i2 i3 ⊢
    by_cases hlt : i < n
    · obtain ⟨k, m, s, hx⟩ := steps_get l i n hl i0 hlt
      obtain ⟨b', off, hp, hat⟩ := hst.addr (by omega)
      subst hp
      have hmem := List.mem_of_getElem? hx
      have hok := ho _ hmem
      have hsl := stepB_len k m s (hall _ hmem)
      have hxl := stepX_len k m s hok.2.1 hsl
      have hsn := fmtL_snoc l i.toNat _ hx
      obtain ⟨t, ht⟩ : ∃ t, stepX (k, m, s) = t := ⟨_, rfl⟩
      have hc2 := ptext_c k m s hok.2.1 (by omega)
      rw [ht] at hc2 hsn hxl
      have hal : (acc ++ t).length = acc.length + t.length := List.length_append
      repeat (first | refine sy_k rfl rfl ?_ | (refine gO ?_; first | refine sy_ov (ov_p rfl) rfl rfl ?_ | (refine sy_ov (ov_indexAddr rfl rfl ?_ ?_) rfl rfl ?_; omega; omega)) | (refine sy_cond_t rfl ?_ ?_; focus (first | with_reducible rfl | assumption | omega | (simp <;> first | omega | assumption))))
      refine sy_ov (ov_elem (f := stpV) hat hx rfl rfl (fun _ => rfl)) rfl rfl ?_
      repeat (first | refine sy_k rfl rfl ?_ | (refine gO ?_; first | (refine gL ?_; refine sy_ov (ov_ld 0 rfl rfl rfl) rfl rfl ?_) | (refine gS ?_; refine sy_store 0 rfl rfl rfl rfl rfl rfl rfl rfl ?_) | (refine sy_alloc rfl rfl rfl ?_; intro _)))
      refine sy_ov (ov_call rfl (fun w _ => hc2 w)) rfl rfl ?_
      skip
      refine sy_front 1 rfl rfl ?_
      simp only [List.eraseIdx_cons_succ, List.eraseIdx_cons_zero]
      refine sy_works 0 rfl rfl rfl (writeString_w b v acc t (by first | omega | (simp; done) | (simp; omega)) (by first | omega | (simp; done) | (simp; omega))) ?_
      rintro r e' ⟨rfl, v', rfl⟩
      repeat (first | refine sy_k rfl rfl ?_ | (refine gO ?_; first | refine sy_ov (ov_p rfl) rfl rfl ?_ | (refine gB ?_; (refine sy_ov (ov_ar rfl rfl rfl ?_ ?_) rfl rfl ?_; omega; omega))))
      refine sy_back ⟨i + 1, v', acc ++ t⟩ ⟨by dsimp only; omega, by dsimp only; omega, by dsimp only; rw [show (i + 1).toNat = i.toNat + 1 by omega, hsn, i2], by dsimp only; omega⟩ (by dsimp only; omega) ⟨⟨_, rfl, rfl⟩, ⟨_, rfl, rfl⟩, ⟨_, rfl, rfl⟩, ⟨_, rfl, rfl⟩, trivial⟩ (by repeat first | exact sr | apply sk | apply sd)
    · have hi : i.toNat = l.length := by omega
      rw [hi, List.take_length] at i2
      repeat (first | refine sy_k rfl rfl ?_ | (refine gO ?_; refine sy_ov (ov_p rfl) rfl rfl ?_) | (refine sy_cond_f rfl ?_ ?_; focus (first | with_reducible rfl | assumption | omega | (simp <;> first | omega | assumption))))
      refine sy_works 0 rfl rfl rfl (string_w b v acc (by first | omega | (simp; done) | (simp; omega))) ?_
      rintro r e' ⟨rfl, rfl⟩
      repeat (first | refine sy_k rfl rfl ?_ | (refine gO ?_; refine sy_ov (ov_p rfl) rfl rfl ?_) | refine sy_rt ?_)
      exact ret1 rfl rfl (by rw [i2]; rfl)
end Go.Proofs.Yteddjadeenimkaa
