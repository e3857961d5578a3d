/- The walk of blindfoldlaw09.PathsReads. -/
import Derived.Test.YteddjadeenimkaaPaths5Q
import Derived.Test.YteddjadeenimkaaPaths6Q
set_option linter.unusedVariables false
set_option linter.unusedSimpArgs false
namespace Go.Proofs.Yteddjadeenimkaa
open Go.RowKit Bf
instance : KS Try.prog 38 [.i .i64, .i .i64] := ⟨by kernel_rfl, by kernel_rfl, by kernel_rfl⟩
def liveP : List StepT := [(1, 0, [97]), (2, 3, []), (4, 0, []), (5, 0, [98])]
def liveS : List UInt8 := [46, 97, 91, 51, 93, 63, 33, 98]
theorem live_fmt : fmtL liveP = liveS := by decide +kernel
theorem live_path : pathL 0 liveS = (liveP, 0, 0) := by
  rw [← live_fmt]
  exact pathL_fmt liveP 0 (by decide) (by decide +kernel)
theorem live_ok : pathB liveP = true := by decide +kernel
theorem pathL_bd (s : List UInt8) {L : List StepT} {e a : Int} (h : pathL 0 s = (L, e, a)) : L.length ≤ 64 := by
  by_cases he : e = 0
  · subst he
    have := fmt_pathL _ s 0 L a (Nat.le_refl _) (by omega) h
    omega
  · have := pathL_err 0 s (by rw [h]; exact he)
    rw [h] at this
    simp only at this
    subst this; simp
theorem eqf_self (e a : Int) : eqL [.int .i64 e, .int .i64 a] [.int .i64 e, .int .i64 a] = true := by simp [eqL, eqC]
theorem liveP_ok : ∀ y ∈ liveP, StepOk y := by
  intro y hy
  simp only [liveP, List.mem_cons, List.mem_nil_iff, or_false] at hy
  rcases hy with rfl | rfl | rfl | rfl <;> (unfold StepOk maxLen; simp)
set_option maxRecDepth 20000 in
set_option maxHeartbeats 2000000 in
theorem lives09_c (w : World) : Calls Try.prog 28 #[] w fun e w' => e = .returned (.bool true) ∧ Below w.heap.size w w' := by
  refine sy_enter (args := []) rfl rfl ?_
  simp only [initFr]
  repeat (first | refine sy_k rfl rfl ?_ | (refine gO ?_; refine sy_ov (ov_p rfl) rfl rfl ?_))
  refine sy_calln rfl rfl (fun w _ => pparse_c liveS (by decide) w) ?_
  rintro _ _ ⟨p, q, rfl, rfl⟩
  rw [live_path]
  dsimp only
  rw [show liveP.length = 4 from rfl]
  refine sy_vecAddr 0 rfl (by decide) ?_
  rintro g rfl
  repeat (first | refine sy_k rfl rfl ?_ | (refine gO ?_; first | refine sy_ov (ov_p rfl) rfl rfl ?_ | (refine gL ?_; refine sy_ov (ov_ld 0 rfl rfl rfl) rfl rfl ?_) | (refine gS ?_; refine sy_store 0 rfl rfl rfl rfl rfl rfl rfl rfl ?_) | refine sy_ov (ov_build rfl rfl rfl) rfl rfl ?_ | (refine sy_alloc rfl rfl rfl ?_; intro _)))
  refine sy_ov (ov_eqst (xs := [.int .i64 0, .int .i64 0]) (ys := [.int .i64 0, .int .i64 0]) rfl rfl rfl rfl) rfl rfl ?_
  rw [eqf_self]
  repeat ((refine gO ?_; first | refine sy_ov (ov_p rfl) rfl rfl ?_ | (refine gG ?_; (refine sy_guard_yes rfl rfl rfl rfl rfl ?_ ?_; focus (first | with_reducible rfl | assumption | omega | (simp <;> first | omega | assumption)))) | (refine gK ?_; refine sy_ov (ov_lens rfl) rfl rfl ?_) | (refine sy_ov (ov_pick_t rfl rfl ?_) rfl rfl ?_; focus (with_reducible rfl)) | (refine sy_ov (ov_indexAddr rfl rfl ?_ ?_) rfl rfl ?_; omega; omega)))
  refine sy_ov (ov_loadva 1 (vs := stpV (2, 3, [])) rfl rfl rfl rfl (fun j u hj => ?_)) rfl rfl ?_
  · have := flat_get stpV 3 stpV_len liveP 1 (2, 3, []) rfl j u hj
    have e : (0 + (1 : Int).toNat * Try.t95.size + j) = 1 * 3 + j := by rw [show Try.t95.size = 3 from rfl]; simp
    show (liveP.flatMap stpV)[0 + (1 : Int).toNat * Try.t95.size + j]? = some u
    rw [e]; exact this
  repeat ((refine gO ?_; first | (refine gG ?_; (refine sy_guard_yes rfl rfl rfl rfl rfl ?_ ?_; focus (first | with_reducible rfl | assumption | omega | (simp <;> first | omega | assumption)))) | refine sy_ov (ov_build rfl rfl rfl) rfl rfl ?_))
  refine sy_ov (ov_eqst (xs := stpV (2, 3, [])) (ys := stpV (2, 3, [])) rfl rfl rfl rfl) rfl rfl ?_
  rw [eqL_self]
  repeat ((refine gO ?_; first | refine sy_ov (ov_p rfl) rfl rfl ?_ | (refine gG ?_; (refine sy_guard_yes rfl rfl rfl rfl rfl ?_ ?_; focus (first | with_reducible rfl | assumption | omega | (simp <;> first | omega | assumption)))) | (refine sy_ov (ov_pick_t rfl rfl ?_) rfl rfl ?_; focus (with_reducible rfl))))
  refine sy_ov (ov_call rfl (fun w hw => pformat_c w _ 4 _ liveP rfl (by omega) (vec_isSl hw (i := 1) rfl) liveP_ok liveS (by rw [live_ok, if_pos rfl]; exact live_fmt))) rfl rfl ?_
  repeat (first | refine sy_k rfl rfl ?_ | (refine gO ?_; first | refine sy_ov (ov_p rfl) rfl rfl ?_ | (refine gG ?_; (refine sy_guard_yes rfl rfl rfl rfl rfl ?_ ?_; focus (first | with_reducible rfl | assumption | omega | (simp <;> first | omega | assumption)))) | (refine sy_ov (ov_pick_t rfl rfl ?_) rfl rfl ?_; focus (with_reducible rfl))) | refine sy_rt ?_)
  exact ret1 rfl rfl rfl
set_option maxRecDepth 20000 in
set_option maxHeartbeats 4000000 in
theorem pathsReads_walk (w : World) (s : ByteArray) (hs0 : s.size ≤ 140737488351232) (p : Option Addr) (n c : Nat) (l : List StepT) (hl : l.length = n) (hnc : n ≤ c) (hc : c ≤ maxLen) (hs : IsSl w 3 p n (l.flatMap stpV)) (ho : ∀ y ∈ l, StepOk y) :
    Calls Try.prog 6 #[.string s, .slice p n c] w fun e w' => e = .returned (.bool true) ∧ Below w.heap.size w w' := by
  obtain ⟨⟨q⟩⟩ := s
  have hq : q.length ≤ 140737488351232 := hs0
  have hst : St (fun _ => False) w (fun w => IsSl w 3 p n (l.flatMap stpV)) := St.start (IsSl.bl _ _ _ _) hs
  by_cases h1 : 1000 < q.length
  · refine sy_enter rfl rfl ?_
    simp only [initFr]
    repeat (first | refine sy_k rfl rfl ?_ | (refine gO ?_; first | refine sy_ov (ov_p rfl) rfl rfl ?_ | (refine gG ?_; (refine sy_guard_no rfl rfl rfl rfl rfl ?_ ?_; focus (first | with_reducible rfl | assumption | omega | (simp <;> first | omega | assumption)))) | (refine gK ?_; refine sy_ov (ov_len rfl) rfl rfl ?_) | refine sy_ov (ov_pick rfl rfl rfl) rfl rfl ?_) | (refine sy_cond_t rfl ?_ ?_; focus (first | with_reducible rfl | assumption | omega | (simp <;> first | omega | assumption))))
    refine sy_ov (ov_call rfl (fun w _ => lives09_c w)) rfl rfl ?_
    repeat (first | refine sy_k rfl rfl ?_ | (refine gO ?_; refine sy_ov (ov_p rfl) rfl rfl ?_) | refine sy_rt ?_)
    exact ret1 rfl rfl rfl
  · by_cases h2 : 200 < n
    · refine sy_enter rfl rfl ?_
      simp only [initFr]
      repeat (first | refine sy_k rfl rfl ?_ | (refine gO ?_; first | refine sy_ov (ov_p rfl) rfl rfl ?_ | (refine gG ?_; (refine sy_guard_yes rfl rfl rfl rfl rfl ?_ ?_; focus (first | with_reducible rfl | assumption | omega | (simp <;> first | omega | assumption)))) | (refine gK ?_; first | refine sy_ov (ov_len rfl) rfl rfl ?_ | refine sy_ov (ov_lens rfl) rfl rfl ?_) | (refine sy_ov (ov_pick_f rfl rfl ?_) rfl rfl ?_; focus (with_reducible rfl))) | (refine sy_cond_t rfl ?_ ?_; focus (first | with_reducible rfl | assumption | omega | (simp <;> first | omega | assumption))))
      refine sy_ov (ov_call rfl (fun w _ => lives09_c w)) rfl rfl ?_
      repeat (first | refine sy_k rfl rfl ?_ | (refine gO ?_; refine sy_ov (ov_p rfl) rfl rfl ?_) | refine sy_rt ?_)
      exact ret1 rfl rfl rfl
    · obtain ⟨L, e, a, hL⟩ : ∃ L e a, pathL 0 q = (L, e, a) := ⟨_, _, _, rfl⟩
      have hLn := pathL_bd q hL
      obtain ⟨o, hfm⟩ : ∃ o, (if pathB l = true then fmtL l else []) = o := ⟨_, rfl⟩
      obtain ⟨x, hx⟩ : ∃ x, pathB l = x := ⟨_, rfl⟩
      refine sy_enter rfl rfl ?_
      simp only [initFr]
      repeat (first | refine sy_k rfl rfl ?_ | (refine gO ?_; first | refine sy_ov (ov_p rfl) rfl rfl ?_ | (refine gG ?_; (refine sy_guard_yes rfl rfl rfl rfl rfl ?_ ?_; focus (first | with_reducible rfl | assumption | omega | (simp <;> first | omega | assumption)))) | (refine gK ?_; first | refine sy_ov (ov_len rfl) rfl rfl ?_ | refine sy_ov (ov_lens rfl) rfl rfl ?_) | (refine sy_ov (ov_pick_f rfl rfl ?_) rfl rfl ?_; focus (with_reducible rfl))) | (refine sy_cond_f rfl ?_ ?_; focus (first | with_reducible rfl | assumption | omega | (simp <;> first | omega | assumption))))
      refine sy_calln rfl rfl (fun w _ => pparse_c q (by omega) w) ?_
      rintro _ _ ⟨p1, q1, rfl, rfl⟩
      rw [hL]
      dsimp only
      repeat (first | refine sy_k rfl rfl ?_ | (refine gO ?_; first | refine sy_ov (ov_p rfl) rfl rfl ?_ | (refine gS ?_; refine sy_store 0 rfl rfl rfl rfl rfl rfl rfl rfl ?_) | (refine sy_alloc rfl rfl rfl ?_; intro _)))
      refine sy_calln rfl rfl (fun w _ => rpparse_c q (by omega) w) ?_
      rintro _ _ ⟨p2, q2, rfl, rfl⟩
      rw [hL]
      dsimp only
      repeat (first | refine sy_k rfl rfl ?_ | (refine gO ?_; first | refine sy_ov (ov_p rfl) rfl rfl ?_ | (refine gS ?_; refine sy_store 0 rfl rfl rfl rfl rfl rfl rfl rfl ?_) | (refine sy_alloc rfl rfl rfl ?_; intro _)))
      refine sy_ov (ov_call rfl (fun w hw => rpsame_t w _ _ _ L rfl (by omega) (vec_isSl hw (i := 3) rfl) _ _ (vec_isSl hw (i := 1) rfl))) rfl rfl ?_
      repeat ((refine gO ?_; first | refine sy_ov (ov_p rfl) rfl rfl ?_ | (refine gG ?_; (refine sy_guard_yes rfl rfl rfl rfl rfl ?_ ?_; focus (first | with_reducible rfl | assumption | omega | (simp <;> first | omega | assumption)))) | (refine gL ?_; first | refine sy_ov (ov_ld 0 rfl rfl rfl) rfl rfl ?_ | refine sy_ov (ov_ld 2 rfl rfl rfl) rfl rfl ?_)))
      refine sy_ov (ov_eqst (xs := [.int .i64 e, .int .i64 a]) (ys := [.int .i64 e, .int .i64 a]) rfl rfl rfl rfl) rfl rfl ?_
      rw [eqf_self]
      repeat ((refine gO ?_; first | refine sy_ov (ov_p rfl) rfl rfl ?_ | (refine gG ?_; (refine sy_guard_yes rfl rfl rfl rfl rfl ?_ ?_; focus (first | with_reducible rfl | assumption | omega | (simp <;> first | omega | assumption)))) | (refine sy_ov (ov_pick_t rfl rfl ?_) rfl rfl ?_; focus (with_reducible rfl))))
      refine sy_ov (ov_call rfl (fun w hw => pright_c w p n c l hl (by omega) (hst.at hw) ho)) rfl rfl ?_
      repeat ((refine gO ?_; first | refine sy_ov (ov_p rfl) rfl rfl ?_ | (refine gG ?_; (refine sy_guard_yes rfl rfl rfl rfl rfl ?_ ?_; focus (first | with_reducible rfl | assumption | omega | (simp <;> first | omega | assumption))))))
      refine sy_ov (ov_call rfl (fun w hw => rpright_c w p n c l hl (by omega) (hst.at hw) ho)) rfl rfl ?_
      repeat ((refine gO ?_; first | refine sy_ov (ov_p rfl) rfl rfl ?_ | (refine gG ?_; (refine sy_guard_yes rfl rfl rfl rfl rfl ?_ ?_; focus (first | with_reducible rfl | assumption | omega | (simp <;> first | omega | assumption)))) | (refine gB ?_; refine sy_ov (ov_eqb rfl rfl) rfl rfl ?_) | (refine sy_ov (ov_pick_t rfl rfl ?_) rfl rfl ?_; focus (with_reducible rfl))))
      refine sy_ov (ov_call rfl (fun w hw => pformat_c w p n c l hl (by omega) (hst.at hw) ho o hfm)) rfl rfl ?_
      repeat ((refine gO ?_; first | refine sy_ov (ov_p rfl) rfl rfl ?_ | (refine gG ?_; (refine sy_guard_yes rfl rfl rfl rfl rfl ?_ ?_; focus (first | with_reducible rfl | assumption | omega | (simp <;> first | omega | assumption))))))
      refine sy_ov (ov_call rfl (fun w hw => rpformat_c w p n c l hl (by omega) (hst.at hw) ho o hfm)) rfl rfl ?_
      repeat ((refine gO ?_; first | refine sy_ov (ov_p rfl) rfl rfl ?_ | (refine gG ?_; (refine sy_guard_yes rfl rfl rfl rfl rfl ?_ ?_; focus (first | with_reducible rfl | assumption | omega | (simp <;> first | omega | assumption)))) | (refine sy_ov (ov_pick_t rfl rfl ?_) rfl rfl ?_; focus (with_reducible rfl))))
      refine sy_ov (ov_call rfl (fun w _ => lives09_c w)) rfl rfl ?_
      repeat (first | refine sy_k rfl rfl ?_ | (refine gO ?_; first | refine sy_ov (ov_p rfl) rfl rfl ?_ | (refine sy_ov (ov_pick_t rfl rfl ?_) rfl rfl ?_; focus (with_reducible rfl))) | refine sy_rt ?_)
      exact ret1 rfl rfl rfl
end Go.Proofs.Yteddjadeenimkaa
