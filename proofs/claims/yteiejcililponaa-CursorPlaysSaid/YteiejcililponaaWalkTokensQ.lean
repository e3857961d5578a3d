/- The walks of blindfoldlaw13.TokensScans and TokensMarks. -/
import Derived.Test.YteiejcililponaaBTR
set_option linter.unusedVariables false
set_option linter.unusedSimpArgs false
namespace Go.Proofs.Yteiejcililponaa
open Go.RowKit Bf
/-- So many steps suffice. -/
def scanF : Nat → List UInt8 → Nat → Option (List TokT × Int × Int)
  | 0, _, _ => none
  | f + 1, s, i => if s.length ≤ i then some ([(0, (i : Int), (i : Int), [], 0)], 0, 0) else if blankB (bt s i) = true then scanF f s (i + 1) else if bt s i = 59 then none
    else if (tokA s i).2.1 ≠ 0 then some ([], (tokA s i).2.1, (tokA s i).2.2) else if (i : Int) < (tokA s i).1.2.2.1 then (scanF f s (tokA s i).1.2.2.1.toNat).map (comb [(tokA s i).1]) else none
theorem scanF_ok : ∀ (f : Nat) (s : List UInt8) (i : Nat) (r : List TokT × Int × Int), scanF f s i = some r → scanT s i = r := by
  intro f
  induction f with
  | zero => intro s i r h; cases h
  | succ f ih =>
    intro s i r h
    unfold scanF at h
    by_cases h0 : s.length ≤ i
    · rw [if_pos h0] at h; cases h; exact scanT_end s i h0
    · rw [if_neg h0] at h
      by_cases hb : blankB (bt s i) = true
      · rw [if_pos hb] at h; rw [scanT_blank s i (by omega) hb]; exact ih s (i + 1) r h
      · rw [if_neg hb] at h
        have hb' : blankB (bt s i) = false := by simpa using hb
        by_cases h59 : bt s i = 59
        · rw [if_pos h59] at h; cases h
        · rw [if_neg h59] at h
          obtain ⟨t, e, p, ht⟩ := trip (tokA s i)
          rw [ht] at h
          by_cases he : e = 0
          · subst he
            rw [if_neg (by simp)] at h
            by_cases hlt : (i : Int) < t.2.2.1
            · rw [if_pos hlt] at h
              obtain ⟨r', h1, h2⟩ := Option.map_eq_some_iff.1 h
              rw [scanT_tok s i (by omega) hb' h59 ht hlt, ih s _ r' h1, h2]
            · rw [if_neg hlt] at h; cases h
          · rw [if_pos he] at h; cases h; exact scanT_tokbad s i (by omega) hb' h59 ht he
theorem scanR_of {s : List UInt8} {r : List TokT × Int × Int} (hs : s.length ≤ 65536) (f : Nat) (h : scanF f s 0 = some r) : scanR s = r := by
  unfold scanR; rw [if_neg (by omega)]; exact scanF_ok f s 0 r h
instance : KS Try.prog 55 [.i .i64, .i .i64] := ⟨by kernel_rfl, by kernel_rfl, by kernel_rfl⟩
theorem eqf_self (e a : Int) : eqL [.int .i64 e, .int .i64 a] [.int .i64 e, .int .i64 a] = true := by simp [eqL, eqC]
def live13 : List TokT := [(1, 0, 1, [97], 0), (4, 1, 2, [58], 0), (2, 2, 4, [], -1), (0, 4, 4, [], 0)]
theorem live13_ok : scanR [97, 58, 45, 49] = (live13, 0, 0) := scanR_of (by decide) 5 (by kernel_rfl)
set_option maxRecDepth 20000 in
set_option maxHeartbeats 2000000 in
theorem lives13_c (w : World) : Calls Try.prog 39 #[] w fun e w' => e = .returned (.bool true) ∧ Below w.heap.size w w' := by
  refine sy_enter (args := []) rfl rfl ?_
  simp only [initFr]
  repeat (first | refine sy_k rfl rfl ?_ | (refine gO ?_; refine sy_ov (ov_p rfl) rfl rfl ?_))
  refine sy_calln rfl rfl (fun w _ => scan_c [97, 58, 45, 49] (by decide) w) ?_
  rintro _ _ ⟨p, q, rfl, rfl⟩
  rw [live13_ok]
  dsimp only
  rw [show live13.length = 4 from rfl]
  refine sy_vecAddr 0 rfl (by decide) ?_
  rintro g rfl
  repeat (first | refine sy_k rfl rfl ?_ | (refine gO ?_; first | refine sy_ov (ov_p rfl) rfl rfl ?_ | (refine gL ?_; refine sy_ov (ov_ld 0 rfl rfl rfl) rfl rfl ?_) | (refine gS ?_; refine sy_store 0 rfl rfl rfl rfl rfl rfl rfl rfl ?_) | refine sy_ov (ov_build rfl rfl rfl) rfl rfl ?_ | (refine sy_alloc rfl rfl rfl ?_; intro _)))
  refine sy_ov (ov_eqst (xs := [.int .i64 0, .int .i64 0]) (ys := [.int .i64 0, .int .i64 0]) rfl rfl rfl rfl) rfl rfl ?_
  rw [eqf_self]
  repeat ((refine gO ?_; first | refine sy_ov (ov_p rfl) rfl rfl ?_ | (refine gG ?_; (refine sy_guard_yes rfl rfl rfl rfl rfl ?_ ?_; focus (first | with_reducible rfl | assumption | omega | (simp <;> first | omega | assumption)))) | (refine gK ?_; refine sy_ov (ov_lens rfl) rfl rfl ?_) | (refine sy_ov (ov_pick_t rfl rfl ?_) rfl rfl ?_; focus (with_reducible rfl)) | refine sy_ov (ov_fieldAddr rfl rfl rfl) rfl rfl ?_ | (refine sy_ov (ov_indexAddr rfl rfl ?_ ?_) rfl rfl ?_; omega; omega)))
  refine sy_ov (ov_loadv 1 (v := S [97]) rfl rfl rfl rfl) rfl rfl ?_
  repeat ((refine gO ?_; first | refine sy_ov (ov_p rfl) rfl rfl ?_ | (refine gG ?_; (refine sy_guard_yes rfl rfl rfl rfl rfl ?_ ?_; focus (first | with_reducible rfl | assumption | omega | (simp <;> first | omega | assumption)))) | (refine sy_ov (ov_pick_t rfl rfl ?_) rfl rfl ?_; focus (with_reducible rfl)) | refine sy_ov (ov_fieldAddr rfl rfl rfl) rfl rfl ?_ | (refine sy_ov (ov_indexAddr rfl rfl ?_ ?_) rfl rfl ?_; omega; omega)))
  refine sy_ov (ov_loadv 1 (v := S [58]) rfl rfl rfl rfl) rfl rfl ?_
  repeat ((refine gO ?_; first | refine sy_ov (ov_p rfl) rfl rfl ?_ | (refine gG ?_; (refine sy_guard_yes rfl rfl rfl rfl rfl ?_ ?_; focus (first | with_reducible rfl | assumption | omega | (simp <;> first | omega | assumption)))) | (refine sy_ov (ov_pick_t rfl rfl ?_) rfl rfl ?_; focus (with_reducible rfl)) | refine sy_ov (ov_fieldAddr rfl rfl rfl) rfl rfl ?_ | (refine sy_ov (ov_indexAddr rfl rfl ?_ ?_) rfl rfl ?_; omega; omega)))
  refine sy_ov (ov_loadv 1 (v := .int .i64 (-1)) rfl rfl rfl rfl) rfl rfl ?_
  repeat ((refine gO ?_; first | refine sy_ov (ov_p rfl) rfl rfl ?_ | (refine gG ?_; (refine sy_guard_yes rfl rfl rfl rfl rfl ?_ ?_; focus (first | with_reducible rfl | assumption | omega | (simp <;> first | omega | assumption)))) | (refine sy_ov (ov_pick_t rfl rfl ?_) rfl rfl ?_; focus (with_reducible rfl)) | refine sy_ov (ov_fieldAddr rfl rfl rfl) rfl rfl ?_ | (refine sy_ov (ov_indexAddr rfl rfl ?_ ?_) rfl rfl ?_; omega; omega)))
  refine sy_ov (ov_loadv 1 (v := .int .i64 0) rfl rfl rfl rfl) rfl rfl ?_
  repeat (first | refine sy_k rfl rfl ?_ | (refine gO ?_; first | refine sy_ov (ov_p rfl) rfl rfl ?_ | (refine gG ?_; (refine sy_guard_yes rfl rfl rfl rfl rfl ?_ ?_; focus (first | with_reducible rfl | assumption | omega | (simp <;> first | omega | assumption)))) | (refine sy_ov (ov_pick_t rfl rfl ?_) rfl rfl ?_; focus (with_reducible rfl))) | refine sy_rt ?_)
  exact ret1 rfl rfl rfl
theorem scanT_count (s : List UInt8) : ∀ (m i : Nat), s.length - i ≤ m → ((scanT s i).1.length : Int) ≤ (s.length - i : Nat) + 1 := by
  intro m
  induction m with
  | zero => intro i h; rw [scanT_end s i (by omega)]; simp only [List.length_singleton]; omega
  | succ m ih =>
    intro i h
    by_cases h0 : s.length ≤ i
    · rw [scanT_end s i h0]; simp only [List.length_singleton]; omega
    · by_cases hb : blankB (bt s i) = true
      · rw [scanT_blank s i (by omega) hb]; have := ih (i + 1) (by omega); omega
      · have hb' : blankB (bt s i) = false := by simpa using hb
        by_cases h59 : bt s i = 59
        · obtain ⟨n, e, hr⟩ : ∃ n e, remL (s.drop i) = (n, e) := ⟨_, _, rfl⟩
          by_cases he : e = 0
          · subst he
            have hn := remL_semi (s.drop i) (by rw [bt_dropZ]; exact h59) (drop_neN s i (by omega))
            rw [hr] at hn
            rw [scanT_rem s i (by omega) h59 hr hn]; have := ih (i + n) (by simp only at hn; omega); simp only at hn; omega
          · rw [scanT_rembad s i (by omega) h59 hr he]; simp only [List.length_nil]; omega
        · obtain ⟨t, e, p, ht⟩ := trip (tokA s i)
          by_cases he : e = 0
          · subst he
            have hbd := (tokA_bd s i (by omega) ht).1 rfl
            rw [scanT_tok s i (by omega) hb' h59 ht hbd.2.2.1]
            unfold comb
            split
            · have := ih t.2.2.1.toNat (by omega)
              simp only [List.length_append, List.length_singleton]
              omega
            · simp only [List.length_nil]; omega
          · rw [scanT_tokbad s i (by omega) hb' h59 ht he]; simp only [List.length_nil]; omega
theorem scanR_count (s : List UInt8) {L : List TokT} {e a : Int} (h : scanR s = (L, e, a)) : L.length ≤ 65537 := by
  unfold scanR at h
  split at h
  · cases h; simp
  · have := scanT_count s _ 0 (Nat.le_refl _)
    rw [h] at this
    simp only at this
    omega
set_option maxRecDepth 20000 in
set_option maxHeartbeats 2000000 in
theorem tokensScans_walk (s : ByteArray) (hs0 : s.size ≤ 140737488351232) (w : World) :
    Calls Try.prog 6 #[.string s] w fun e w' => e = .returned (.bool true) ∧ Below w.heap.size w w' := by
  obtain ⟨⟨q⟩⟩ := s
  have hq : q.length ≤ 140737488351232 := hs0
  by_cases h1 : 2000 < q.length ∧ q.length ≤ 65536
  · obtain ⟨h1, h2⟩ := h1
    refine sy_enter rfl rfl ?_
    simp only [initFr]
    repeat (first | refine sy_k rfl rfl ?_ | (refine gO ?_; first | refine sy_ov (ov_p rfl) rfl rfl ?_ | (refine gG ?_; (refine sy_guard_yes rfl rfl rfl rfl rfl ?_ ?_; focus (first | with_reducible rfl | assumption | omega | (simp <;> first | omega | assumption)))) | (refine gK ?_; refine sy_ov (ov_len rfl) rfl rfl ?_) | (refine sy_ov (ov_pick_t rfl rfl ?_) rfl rfl ?_; focus (with_reducible rfl))) | (refine sy_cond_t rfl ?_ ?_; focus (first | with_reducible rfl | assumption | omega | (simp <;> first | omega | assumption))))
    refine sy_ov (ov_call rfl (fun w _ => lives13_c w)) rfl rfl ?_
    repeat (first | refine sy_k rfl rfl ?_ | (refine gO ?_; refine sy_ov (ov_p rfl) rfl rfl ?_) | refine sy_rt ?_)
    exact ret1 rfl rfl rfl
  · obtain ⟨L, e, a, hL⟩ : ∃ L e a, scanR q = (L, e, a) := ⟨_, _, _, rfl⟩
    have hLn := scanR_count q hL
    have small : ∀ {s' : List UInt8}, 65536 < s'.length → s'.length ≤ 140737488351232 → True := fun _ _ => trivial
    have hsplit : (2000 < q.length ∧ 65536 < q.length) ∨ ¬ 2000 < q.length := by omega
    rcases hsplit with ⟨a1, a2⟩ | a1
    all_goals
      refine sy_enter rfl rfl ?_
      simp only [initFr]
      repeat (first | refine sy_k rfl rfl ?_ | (refine gO ?_; first | refine sy_ov (ov_p rfl) rfl rfl ?_ | (refine gG ?_; first | (refine sy_guard_yes rfl rfl rfl rfl rfl ?_ ?_; focus (first | with_reducible rfl | assumption | omega | (simp <;> first | omega | assumption))) | (refine sy_guard_no rfl rfl rfl rfl rfl ?_ ?_; focus (first | with_reducible rfl | assumption | omega | (simp <;> first | omega | assumption)))) | (refine gK ?_; refine sy_ov (ov_len rfl) rfl rfl ?_) | (refine sy_ov (ov_pick_t rfl rfl ?_) rfl rfl ?_; focus (with_reducible rfl)) | refine sy_ov (ov_pick rfl rfl rfl) rfl rfl ?_) | (refine sy_cond_f rfl ?_ ?_; focus (first | with_reducible rfl | assumption | omega | (simp <;> first | omega | assumption))))
      refine sy_calln rfl rfl (fun w _ => scan_c q (by omega) w) ?_
      rintro _ _ ⟨p1, q1, rfl, rfl⟩
      rw [hL]
      dsimp only
      repeat (first | refine sy_k rfl rfl ?_ | (refine gO ?_; first | refine sy_ov (ov_p rfl) rfl rfl ?_ | (refine gS ?_; refine sy_store 0 rfl rfl rfl rfl rfl rfl rfl rfl ?_) | (refine sy_alloc rfl rfl rfl ?_; intro _)))
      refine sy_calln rfl rfl (fun w _ => rscan_c q (by omega) w) ?_
      rintro _ _ ⟨p2, q2, rfl, rfl⟩
      rw [hL]
      dsimp only
      repeat (first | refine sy_k rfl rfl ?_ | (refine gO ?_; first | refine sy_ov (ov_p rfl) rfl rfl ?_ | (refine gS ?_; refine sy_store 0 rfl rfl rfl rfl rfl rfl rfl rfl ?_) | (refine sy_alloc rfl rfl rfl ?_; intro _)))
      refine sy_ov (ov_call rfl (fun w hw => rtsame_t w _ _ _ L rfl (by omega) (vec_isSl hw (i := 3) rfl) _ _ (vec_isSl hw (i := 1) rfl))) rfl rfl ?_
      repeat ((refine gO ?_; first | refine sy_ov (ov_p rfl) rfl rfl ?_ | (refine gG ?_; (refine sy_guard_yes rfl rfl rfl rfl rfl ?_ ?_; focus (first | with_reducible rfl | assumption | omega | (simp <;> first | omega | assumption)))) | (refine gL ?_; first | refine sy_ov (ov_ld 0 rfl rfl rfl) rfl rfl ?_ | refine sy_ov (ov_ld 2 rfl rfl rfl) rfl rfl ?_)))
      refine sy_ov (ov_eqst (xs := [.int .i64 e, .int .i64 a]) (ys := [.int .i64 e, .int .i64 a]) rfl rfl rfl rfl) rfl rfl ?_
      rw [eqf_self]
      repeat ((refine gO ?_; first | refine sy_ov (ov_p rfl) rfl rfl ?_ | (refine gG ?_; (refine sy_guard_yes rfl rfl rfl rfl rfl ?_ ?_; focus (first | with_reducible rfl | assumption | omega | (simp <;> first | omega | assumption)))) | (refine sy_ov (ov_pick_t rfl rfl ?_) rfl rfl ?_; focus (with_reducible rfl))))
      refine sy_ov (ov_call rfl (fun w _ => lives13_c w)) rfl rfl ?_
      repeat (first | refine sy_k rfl rfl ?_ | (refine gO ?_; first | refine sy_ov (ov_p rfl) rfl rfl ?_ | (refine sy_ov (ov_pick_t rfl rfl ?_) rfl rfl ?_; focus (with_reducible rfl))) | refine sy_rt ?_)
      exact ret1 rfl rfl rfl
set_option maxRecDepth 20000 in
set_option maxHeartbeats 2000000 in
theorem tokensMarks_walk (s : ByteArray) (hs0 : s.size ≤ 140737488351232) (i : Int) (i1 : -9223372036854775808 ≤ i ∧ i ≤ 9223372036854775807) (c : Int) (c1 : 0 ≤ c ∧ c ≤ 255) (w : World) :
    Calls Try.prog 7 #[.string s, .int .i64 i, .int .u8 c] w fun e w' => e = .returned (.bool true) ∧ Below w.heap.size w w' := by
  obtain ⟨⟨q⟩⟩ := s
  have hq : q.length ≤ 140737488351232 := hs0
  obtain ⟨o, ho⟩ : ∃ o, markAt q i = o := ⟨_, rfl⟩
  by_cases h9 : c = 9
  · subst h9
    refine sy_enter rfl rfl ?_
    simp only [initFr]
    repeat (first | refine sy_k rfl rfl ?_ | (refine gO ?_; refine sy_ov (ov_p rfl) rfl rfl ?_))
    refine sy_ov (ov_call rfl (fun w _ => mark_c q i o ho (by omega) w)) rfl rfl ?_
    repeat ((refine gO ?_; refine sy_ov (ov_p rfl) rfl rfl ?_))
    refine sy_ov (ov_call rfl (fun w _ => rmark_c q i o ho (by omega) w)) rfl rfl ?_
    repeat ((refine gO ?_; first | refine sy_ov (ov_p rfl) rfl rfl ?_ | (refine gG ?_; (refine sy_guard_yes rfl rfl rfl rfl rfl ?_ ?_; focus (first | with_reducible rfl | assumption | omega | (simp <;> first | omega | assumption))))))
    refine sy_ov (ov_call rfl (fun w _ => blank_c 9 true rfl w)) rfl rfl ?_
    repeat ((refine gO ?_; first | refine sy_ov (ov_p rfl) rfl rfl ?_ | (refine gG ?_; first | (refine sy_guard_yes rfl rfl rfl rfl rfl ?_ ?_; focus (first | with_reducible rfl | assumption | omega | (simp <;> first | omega | assumption))) | (refine sy_guard_no rfl rfl rfl rfl rfl ?_ ?_; focus (first | with_reducible rfl | assumption | omega | (simp <;> first | omega | assumption)))) | (refine gB ?_; refine sy_ov (ov_eqb rfl rfl) rfl rfl ?_) | (refine sy_ov (ov_pick_t rfl rfl ?_) rfl rfl ?_; focus (with_reducible rfl)) | refine sy_ov (ov_pick rfl rfl rfl) rfl rfl ?_))
    refine sy_ov (ov_call rfl (fun w _ => lives13_c w)) rfl rfl ?_
    repeat (first | refine sy_k rfl rfl ?_ | (refine gO ?_; first | refine sy_ov (ov_p rfl) rfl rfl ?_ | (refine sy_ov (ov_pick_t rfl rfl ?_) rfl rfl ?_; focus (with_reducible rfl))) | refine sy_rt ?_)
    exact ret1 rfl rfl rfl
  · by_cases h10 : c = 10
    · subst h10
      refine sy_enter rfl rfl ?_
      simp only [initFr]
      repeat (first | refine sy_k rfl rfl ?_ | (refine gO ?_; refine sy_ov (ov_p rfl) rfl rfl ?_))
      refine sy_ov (ov_call rfl (fun w _ => mark_c q i o ho (by omega) w)) rfl rfl ?_
      repeat ((refine gO ?_; refine sy_ov (ov_p rfl) rfl rfl ?_))
      refine sy_ov (ov_call rfl (fun w _ => rmark_c q i o ho (by omega) w)) rfl rfl ?_
      repeat ((refine gO ?_; first | refine sy_ov (ov_p rfl) rfl rfl ?_ | (refine gG ?_; (refine sy_guard_yes rfl rfl rfl rfl rfl ?_ ?_; focus (first | with_reducible rfl | assumption | omega | (simp <;> first | omega | assumption))))))
      refine sy_ov (ov_call rfl (fun w _ => blank_c 10 true rfl w)) rfl rfl ?_
      repeat ((refine gO ?_; first | refine sy_ov (ov_p rfl) rfl rfl ?_ | (refine gG ?_; first | (refine sy_guard_yes rfl rfl rfl rfl rfl ?_ ?_; focus (first | with_reducible rfl | assumption | omega | (simp <;> first | omega | assumption))) | (refine sy_guard_no rfl rfl rfl rfl rfl ?_ ?_; focus (first | with_reducible rfl | assumption | omega | (simp <;> first | omega | assumption)))) | (refine gB ?_; refine sy_ov (ov_eqb rfl rfl) rfl rfl ?_) | (refine sy_ov (ov_pick_t rfl rfl ?_) rfl rfl ?_; focus (with_reducible rfl)) | (refine sy_ov (ov_pick_f rfl rfl ?_) rfl rfl ?_; focus (with_reducible rfl)) | refine sy_ov (ov_pick rfl rfl rfl) rfl rfl ?_))
      refine sy_ov (ov_call rfl (fun w _ => lives13_c w)) rfl rfl ?_
      repeat (first | refine sy_k rfl rfl ?_ | (refine gO ?_; first | refine sy_ov (ov_p rfl) rfl rfl ?_ | (refine sy_ov (ov_pick_t rfl rfl ?_) rfl rfl ?_; focus (with_reducible rfl))) | refine sy_rt ?_)
      exact ret1 rfl rfl rfl
    · by_cases h13 : c = 13
      · subst h13
        refine sy_enter rfl rfl ?_
        simp only [initFr]
        repeat (first | refine sy_k rfl rfl ?_ | (refine gO ?_; refine sy_ov (ov_p rfl) rfl rfl ?_))
        refine sy_ov (ov_call rfl (fun w _ => mark_c q i o ho (by omega) w)) rfl rfl ?_
        repeat ((refine gO ?_; refine sy_ov (ov_p rfl) rfl rfl ?_))
        refine sy_ov (ov_call rfl (fun w _ => rmark_c q i o ho (by omega) w)) rfl rfl ?_
        repeat ((refine gO ?_; first | refine sy_ov (ov_p rfl) rfl rfl ?_ | (refine gG ?_; (refine sy_guard_yes rfl rfl rfl rfl rfl ?_ ?_; focus (first | with_reducible rfl | assumption | omega | (simp <;> first | omega | assumption))))))
        refine sy_ov (ov_call rfl (fun w _ => blank_c 13 true rfl w)) rfl rfl ?_
        repeat ((refine gO ?_; first | refine sy_ov (ov_p rfl) rfl rfl ?_ | (refine gG ?_; first | (refine sy_guard_yes rfl rfl rfl rfl rfl ?_ ?_; focus (first | with_reducible rfl | assumption | omega | (simp <;> first | omega | assumption))) | (refine sy_guard_no rfl rfl rfl rfl rfl ?_ ?_; focus (first | with_reducible rfl | assumption | omega | (simp <;> first | omega | assumption)))) | (refine gB ?_; refine sy_ov (ov_eqb rfl rfl) rfl rfl ?_) | (refine sy_ov (ov_pick_t rfl rfl ?_) rfl rfl ?_; focus (with_reducible rfl)) | (refine sy_ov (ov_pick_f rfl rfl ?_) rfl rfl ?_; focus (with_reducible rfl)) | refine sy_ov (ov_pick rfl rfl rfl) rfl rfl ?_))
        refine sy_ov (ov_call rfl (fun w _ => lives13_c w)) rfl rfl ?_
        repeat (first | refine sy_k rfl rfl ?_ | (refine gO ?_; first | refine sy_ov (ov_p rfl) rfl rfl ?_ | (refine sy_ov (ov_pick_t rfl rfl ?_) rfl rfl ?_; focus (with_reducible rfl))) | refine sy_rt ?_)
        exact ret1 rfl rfl rfl
      · by_cases h32 : c = 32
        · subst h32
          refine sy_enter rfl rfl ?_
          simp only [initFr]
          repeat (first | refine sy_k rfl rfl ?_ | (refine gO ?_; refine sy_ov (ov_p rfl) rfl rfl ?_))
          refine sy_ov (ov_call rfl (fun w _ => mark_c q i o ho (by omega) w)) rfl rfl ?_
          repeat ((refine gO ?_; refine sy_ov (ov_p rfl) rfl rfl ?_))
          refine sy_ov (ov_call rfl (fun w _ => rmark_c q i o ho (by omega) w)) rfl rfl ?_
          repeat ((refine gO ?_; first | refine sy_ov (ov_p rfl) rfl rfl ?_ | (refine gG ?_; (refine sy_guard_yes rfl rfl rfl rfl rfl ?_ ?_; focus (first | with_reducible rfl | assumption | omega | (simp <;> first | omega | assumption))))))
          refine sy_ov (ov_call rfl (fun w _ => blank_c 32 true rfl w)) rfl rfl ?_
          repeat ((refine gO ?_; first | refine sy_ov (ov_p rfl) rfl rfl ?_ | (refine gG ?_; (refine sy_guard_yes rfl rfl rfl rfl rfl ?_ ?_; focus (first | with_reducible rfl | assumption | omega | (simp <;> first | omega | assumption)))) | (refine gB ?_; refine sy_ov (ov_eqb rfl rfl) rfl rfl ?_) | (refine sy_ov (ov_pick_t rfl rfl ?_) rfl rfl ?_; focus (with_reducible rfl)) | (refine sy_ov (ov_pick_f rfl rfl ?_) rfl rfl ?_; focus (with_reducible rfl))))
          refine sy_ov (ov_call rfl (fun w _ => lives13_c w)) rfl rfl ?_
          repeat (first | refine sy_k rfl rfl ?_ | (refine gO ?_; first | refine sy_ov (ov_p rfl) rfl rfl ?_ | (refine sy_ov (ov_pick_t rfl rfl ?_) rfl rfl ?_; focus (with_reducible rfl))) | refine sy_rt ?_)
          exact ret1 rfl rfl rfl
        · refine sy_enter rfl rfl ?_
          simp only [initFr]
          repeat (first | refine sy_k rfl rfl ?_ | (refine gO ?_; refine sy_ov (ov_p rfl) rfl rfl ?_))
          refine sy_ov (ov_call rfl (fun w _ => mark_c q i o ho (by omega) w)) rfl rfl ?_
          repeat ((refine gO ?_; refine sy_ov (ov_p rfl) rfl rfl ?_))
          refine sy_ov (ov_call rfl (fun w _ => rmark_c q i o ho (by omega) w)) rfl rfl ?_
          repeat ((refine gO ?_; first | refine sy_ov (ov_p rfl) rfl rfl ?_ | (refine gG ?_; (refine sy_guard_yes rfl rfl rfl rfl rfl ?_ ?_; focus (first | with_reducible rfl | assumption | omega | (simp <;> first | omega | assumption))))))
          refine sy_ov (ov_call rfl (fun w _ => blank_c c false (blankB_f h9 h10 h13 h32) w)) rfl rfl ?_
          repeat ((refine gO ?_; first | refine sy_ov (ov_p rfl) rfl rfl ?_ | (refine gG ?_; (refine sy_guard_yes rfl rfl rfl rfl rfl ?_ ?_; focus (first | with_reducible rfl | assumption | omega | (simp <;> first | omega | assumption)))) | (refine gB ?_; refine sy_ov (ov_eqb rfl rfl) rfl rfl ?_) | (refine sy_ov (ov_pick_t rfl rfl ?_) rfl rfl ?_; focus (with_reducible rfl)) | (refine sy_ov (ov_pick_f rfl rfl ?_) rfl rfl ?_; focus (with_reducible rfl))))
          refine sy_ov (ov_call rfl (fun w _ => lives13_c w)) rfl rfl ?_
          repeat (first | refine sy_k rfl rfl ?_ | (refine gO ?_; first | refine sy_ov (ov_p rfl) rfl rfl ?_ | (refine sy_ov (ov_pick_t rfl rfl ?_) rfl rfl ?_; focus (with_reducible rfl))) | refine sy_rt ?_)
          exact ret1 rfl rfl rfl
end Go.Proofs.Yteiejcililponaa
