/- Contracts of the package cursor where there is none; the walk of blindfoldlaw14.CursorNone; lives. -/
import Derived.Test.YteiejcililponaaCurQ
import Derived.Test.YteiejcililponaaWalkTokensQ
set_option linter.unusedVariables false
set_option linter.unusedSimpArgs false
namespace Go.Proofs.Yteiejcililponaa
open Go.RowKit Bf
theorem zt_self : eqL [.int .i64 0, .int .i64 0, .int .i64 0, S [], .int .i64 0] [.int .i64 0, .int .i64 0, .int .i64 0, S [], .int .i64 0] = true := by simp [eqL, eqC]
theorem none_peek (w : World) : Calls Try.prog 49 #[.pointer none] w fun e w' => e = .returned (.agg ⟨[.int .i64 0, .int .i64 0, .int .i64 0, S [], .int .i64 0]⟩) ∧ Below w.heap.size w w' := by
  refine sy_enter rfl rfl ?_
  simp only [initFr]
  repeat (first | refine sy_k rfl rfl ?_ | (refine gO ?_; first | refine sy_ov (ov_p rfl) rfl rfl ?_ | (refine sy_alloc rfl rfl rfl ?_; intro _)))
  refine sy_ov (ov_eqnil rfl rfl) rfl rfl ?_
  repeat (first | refine sy_k rfl rfl ?_ | (refine gO ?_; first | refine sy_ov (ov_p rfl) rfl rfl ?_ | (refine gS ?_; refine sy_store 0 rfl rfl rfl rfl rfl rfl rfl rfl ?_) | refine sy_ov (ov_build rfl rfl rfl) rfl rfl ?_) | (refine sy_cond_t rfl ?_ ?_; focus (first | with_reducible rfl | assumption | omega | (simp <;> first | omega | assumption))) | refine sy_rt ?_)
  exact ret1c 0 rfl rfl rfl rfl rfl rfl
theorem none_step (w : World) : Calls Try.prog 104 #[.pointer none] w fun e w' => e = .returned (.tuple #[]) ∧ Below w.heap.size w w' := by
  refine sy_enter rfl rfl ?_
  simp only [initFr]
  repeat (first | refine sy_k rfl rfl ?_ | (refine gO ?_; refine sy_ov (ov_p rfl) rfl rfl ?_))
  refine sy_ov (ov_call rfl (fun w _ => none_peek w)) rfl rfl ?_
  repeat (first | refine sy_k rfl rfl ?_ | (refine gO ?_; first | refine sy_ov (ov_p rfl) rfl rfl ?_ | refine sy_ov (ov_field rfl rfl rfl) rfl rfl ?_) | (refine sy_cond_f rfl ?_ ?_; focus (first | with_reducible rfl | assumption | omega | (simp <;> first | omega | assumption))))
  exact end0w rfl fun w hw => ⟨rfl, hw.below⟩
theorem none_next (w : World) : Calls Try.prog 48 #[.pointer none] w fun e w' => e = .returned (.agg ⟨[.int .i64 0, .int .i64 0, .int .i64 0, S [], .int .i64 0]⟩) ∧ Below w.heap.size w w' := by
  refine sy_enter rfl rfl ?_
  simp only [initFr]
  repeat (first | refine sy_k rfl rfl ?_ | (refine gO ?_; first | refine sy_ov (ov_p rfl) rfl rfl ?_ | (refine sy_alloc rfl rfl rfl ?_; intro _)))
  refine sy_ov (ov_call rfl (fun w _ => none_peek w)) rfl rfl ?_
  repeat (first | refine sy_k rfl rfl ?_ | (refine gO ?_; first | refine sy_ov (ov_p rfl) rfl rfl ?_ | (refine gS ?_; refine sy_store 0 rfl rfl rfl rfl rfl rfl rfl rfl ?_) | (refine sy_alloc rfl rfl rfl ?_; intro _)))
  refine sy_ov (ov_call rfl (fun w _ => none_step w)) rfl rfl ?_
  repeat (first | refine sy_k rfl rfl ?_ | (refine gO ?_; first | (refine gL ?_; refine sy_ov (ov_ld 0 rfl rfl rfl) rfl rfl ?_) | (refine gS ?_; refine sy_store 1 rfl rfl rfl rfl rfl rfl rfl rfl ?_)) | refine sy_rt ?_)
  exact ret1c 1 rfl rfl rfl rfl rfl rfl
theorem none_is (k : Int) (t : List UInt8) (hk : k ≠ 0) (w : World) : Calls Try.prog 105 #[.pointer none, .int .i64 k, S t] w fun e w' => e = .returned (.bool false) ∧ Below w.heap.size w w' := by
  have hk' : (0 : Int) ≠ k := fun h => hk h.symm
  refine sy_enter rfl rfl ?_
  simp only [initFr]
  repeat (first | refine sy_k rfl rfl ?_ | (refine gO ?_; refine sy_ov (ov_p rfl) rfl rfl ?_))
  refine sy_ov (ov_call rfl (fun w _ => none_peek w)) rfl rfl ?_
  repeat (first | refine sy_k rfl rfl ?_ | (refine gO ?_; first | refine sy_ov (ov_p rfl) rfl rfl ?_ | (refine gG ?_; (refine sy_guard_no rfl rfl rfl rfl rfl ?_ ?_; focus (first | with_reducible rfl | assumption | omega | (simp <;> first | omega | assumption)))) | (refine gL ?_; refine sy_ov (ov_ld 0 rfl rfl rfl) rfl rfl ?_) | (refine gS ?_; refine sy_store 0 rfl rfl rfl rfl rfl rfl rfl rfl ?_) | refine sy_ov (ov_pick rfl rfl rfl) rfl rfl ?_ | refine sy_ov (ov_fieldAddr rfl rfl rfl) rfl rfl ?_ | (refine sy_alloc rfl rfl rfl ?_; intro _)) | (refine sy_cond_t rfl ?_ ?_; focus (first | with_reducible rfl | assumption | omega | (simp <;> first | omega | assumption))) | refine sy_rt ?_)
  exact ret1 rfl rfl rfl
theorem none_mark (t : List UInt8) (w : World) : Calls Try.prog 53 #[.pointer none, S t] w fun e w' => e = .returned (.bool false) ∧ Below w.heap.size w w' := by
  refine sy_enter rfl rfl ?_
  simp only [initFr]
  repeat (first | refine sy_k rfl rfl ?_ | (refine gO ?_; refine sy_ov (ov_p rfl) rfl rfl ?_))
  refine sy_ov (ov_call rfl (fun w _ => none_is 4 t (by decide) w)) rfl rfl ?_
  repeat (first | refine sy_k rfl rfl ?_ | (refine gO ?_; refine sy_ov (ov_p rfl) rfl rfl ?_) | refine sy_rt ?_)
  exact ret1 rfl rfl rfl
theorem none_word (t : List UInt8) (w : World) : Calls Try.prog 54 #[.pointer none, S t] w fun e w' => e = .returned (.bool false) ∧ Below w.heap.size w w' := by
  refine sy_enter rfl rfl ?_
  simp only [initFr]
  repeat (first | refine sy_k rfl rfl ?_ | (refine gO ?_; refine sy_ov (ov_p rfl) rfl rfl ?_))
  refine sy_ov (ov_call rfl (fun w _ => none_is 1 t (by decide) w)) rfl rfl ?_
  repeat (first | refine sy_k rfl rfl ?_ | (refine gO ?_; refine sy_ov (ov_p rfl) rfl rfl ?_) | refine sy_rt ?_)
  exact ret1 rfl rfl rfl
theorem none_failAt (e a : Int) (w : World) : Calls Try.prog 51 #[.pointer none, .int .i64 e, .int .i64 a] w fun x w' => x = .returned (.tuple #[]) ∧ Below w.heap.size w w' := by
  refine sy_enter rfl rfl ?_
  simp only [initFr]
  repeat (first | refine sy_k rfl rfl ?_ | (refine gO ?_; refine sy_ov (ov_p rfl) rfl rfl ?_))
  refine sy_ov (ov_nenil rfl rfl) rfl rfl ?_
  repeat (first | refine sy_k rfl rfl ?_ | (refine gO ?_; first | refine sy_ov (ov_p rfl) rfl rfl ?_ | (refine gG ?_; (refine sy_guard_no rfl rfl rfl rfl rfl ?_ ?_; focus (first | with_reducible rfl | assumption | omega | (simp <;> first | omega | assumption)))) | refine sy_ov (ov_pick rfl rfl rfl) rfl rfl ?_) | (refine sy_cond_f rfl ?_ ?_; focus (first | with_reducible rfl | assumption | omega | (simp <;> first | omega | assumption))))
  exact end0w rfl fun w hw => ⟨rfl, hw.below⟩
theorem none_fail (e : Int) (w : World) : Calls Try.prog 56 #[.pointer none, .int .i64 e] w fun x w' => x = .returned (.tuple #[]) ∧ Below w.heap.size w w' := by
  refine sy_enter rfl rfl ?_
  simp only [initFr]
  repeat (first | refine sy_k rfl rfl ?_ | (refine gO ?_; refine sy_ov (ov_p rfl) rfl rfl ?_))
  refine sy_ov (ov_call rfl (fun w _ => none_peek w)) rfl rfl ?_
  repeat ((refine gO ?_; refine sy_ov (ov_field rfl rfl rfl) rfl rfl ?_))
  refine sy_ov (ov_call rfl (fun w _ => none_failAt e 0 w)) rfl rfl ?_
  repeat (refine sy_k rfl rfl ?_)
  exact end0w rfl fun w hw => ⟨rfl, hw.below⟩
theorem none_need (t : List UInt8) (w : World) : Calls Try.prog 55 #[.pointer none, S t] w fun e w' => e = .returned (.bool false) ∧ Below w.heap.size w w' := by
  refine sy_enter rfl rfl ?_
  simp only [initFr]
  repeat (first | refine sy_k rfl rfl ?_ | (refine gO ?_; refine sy_ov (ov_p rfl) rfl rfl ?_))
  refine sy_ov (ov_call rfl (fun w _ => none_mark t w)) rfl rfl ?_
  repeat (first | refine sy_k rfl rfl ?_ | (refine gO ?_; refine sy_ov (ov_p rfl) rfl rfl ?_) | (refine sy_cond_f rfl ?_ ?_; focus (first | with_reducible rfl | assumption | omega | (simp <;> first | omega | assumption))))
  refine sy_ov (ov_call rfl (fun w _ => none_peek w)) rfl rfl ?_
  repeat (first | refine sy_k rfl rfl ?_ | (refine gO ?_; first | refine sy_ov (ov_p rfl) rfl rfl ?_ | refine sy_ov (ov_field rfl rfl rfl) rfl rfl ?_) | (refine sy_cond_t rfl ?_ ?_; focus (first | with_reducible rfl | assumption | omega | (simp <;> first | omega | assumption))))
  refine sy_ov (ov_call rfl (fun w _ => none_fail 5 w)) rfl rfl ?_
  repeat (first | refine sy_k rfl rfl ?_ | (refine gO ?_; refine sy_ov (ov_p rfl) rfl rfl ?_) | refine sy_rt ?_)
  exact ret1 rfl rfl rfl
section
variable {P : Program} {fr : Fr} {hp : List En}
theorem ret2ctB (i : Nat) {fn : Func} {t c : Tmp} {ct : TypeId} {d : TypeDesc} {ti : TypeInfo} [hd : TU P ct d] [hti : TI P ct ti] {w0 : World} {n b : Nat} {e : TypeId} {cs : List Value} {v v0 : Value} (hr : fn.results = #[.cell c ct, .tmp t]) (hv : get t fr = some v) (hc : get c fr = some (.pointer (some ⟨b, 0, none⟩))) (hi : hp[i]? = some (blk b e cs)) (ha : isAggD d = true) (hn : Nat.ble (0 + ti.size) cs.length = true) (he : Value.tuple #[.agg ⟨cs.take ti.size⟩, v] = v0) :
    Leave P ⟨fun _ => False, w0, n, bodyPost P fn fun e w' => e = .returned v0 ∧ Below w0.heap.size w0 w'⟩ .ret [] fr hp := ret2ct i hr hv hc hi ha hn fun w hw => ⟨by rw [he], hw.below⟩
end
theorem none_take (k : Int) (w : World) : Calls Try.prog 52 #[.pointer none, .int .i64 k] w fun e w' => e = .returned (.tuple #[.agg ⟨[.int .i64 0, .int .i64 0, .int .i64 0, S [], .int .i64 0]⟩, .bool false]) ∧ Below w.heap.size w w' := by
  refine sy_enter rfl rfl ?_
  simp only [initFr]
  repeat (first | refine sy_k rfl rfl ?_ | (refine gO ?_; first | refine sy_ov (ov_p rfl) rfl rfl ?_ | (refine sy_alloc rfl rfl rfl ?_; intro _)))
  refine sy_ov (ov_call rfl (fun w _ => none_peek w)) rfl rfl ?_
  repeat (first | refine sy_k rfl rfl ?_ | (refine gO ?_; first | refine sy_ov (ov_p rfl) rfl rfl ?_ | (refine gG ?_; (refine sy_guard_no rfl rfl rfl rfl rfl ?_ ?_; focus (first | with_reducible rfl | assumption | omega | (simp <;> first | omega | assumption)))) | (refine gL ?_; refine sy_ov (ov_ld 0 rfl rfl rfl) rfl rfl ?_) | (refine gS ?_; first | refine sy_store 0 rfl rfl rfl rfl rfl rfl rfl rfl ?_ | refine sy_store 1 rfl rfl rfl rfl rfl rfl rfl rfl ?_) | refine sy_ov (ov_pick rfl rfl rfl) rfl rfl ?_ | refine sy_ov (ov_fieldAddr rfl rfl rfl) rfl rfl ?_ | refine sy_ov (ov_build rfl rfl rfl) rfl rfl ?_ | (refine sy_alloc rfl rfl rfl ?_; intro _)) | (refine sy_cond_t rfl ?_ ?_; focus (first | with_reducible rfl | assumption | omega | (simp <;> first | omega | assumption))) | refine sy_rt ?_)
  exact ret2ctB 1 rfl rfl rfl rfl rfl rfl rfl
theorem none_enter (w : World) : Calls Try.prog 61 #[.pointer none] w fun e w' => e = .returned (.bool false) ∧ Below w.heap.size w w' := by
  refine sy_enter rfl rfl ?_
  simp only [initFr]
  repeat (first | refine sy_k rfl rfl ?_ | (refine gO ?_; refine sy_ov (ov_p rfl) rfl rfl ?_))
  refine sy_ov (ov_eqnil rfl rfl) rfl rfl ?_
  repeat (first | refine sy_k rfl rfl ?_ | (refine gO ?_; refine sy_ov (ov_p rfl) rfl rfl ?_) | (refine sy_cond_t rfl ?_ ?_; focus (first | with_reducible rfl | assumption | omega | (simp <;> first | omega | assumption))) | refine sy_rt ?_)
  exact ret1 rfl rfl rfl
theorem none_leave (w : World) : Calls Try.prog 60 #[.pointer none] w fun x w' => x = .returned (.tuple #[]) ∧ Below w.heap.size w w' := by
  refine sy_enter rfl rfl ?_
  simp only [initFr]
  repeat (first | refine sy_k rfl rfl ?_ | (refine gO ?_; refine sy_ov (ov_p rfl) rfl rfl ?_))
  refine sy_ov (ov_nenil rfl rfl) rfl rfl ?_
  repeat (first | refine sy_k rfl rfl ?_ | (refine sy_cond_f rfl ?_ ?_; focus (first | with_reducible rfl | assumption | omega | (simp <;> first | omega | assumption))))
  exact end0w rfl fun w hw => ⟨rfl, hw.below⟩
theorem none_depth (w : World) : Calls Try.prog 59 #[.pointer none] w fun e w' => e = .returned (.int .i64 0) ∧ Below w.heap.size w w' := by
  refine sy_enter rfl rfl ?_
  simp only [initFr]
  repeat (first | refine sy_k rfl rfl ?_ | (refine gO ?_; refine sy_ov (ov_p rfl) rfl rfl ?_))
  refine sy_ov (ov_eqnil rfl rfl) rfl rfl ?_
  repeat (first | refine sy_k rfl rfl ?_ | (refine gO ?_; refine sy_ov (ov_p rfl) rfl rfl ?_) | (refine sy_cond_t rfl ?_ ?_; focus (first | with_reducible rfl | assumption | omega | (simp <;> first | omega | assumption))) | refine sy_rt ?_)
  exact ret1 rfl rfl rfl
theorem none_fault (w : World) : Calls Try.prog 50 #[.pointer none] w fun e w' => e = .returned (faultV 1 0) ∧ Below w.heap.size w w' := by
  refine sy_enter rfl rfl ?_
  simp only [initFr]
  repeat (first | refine sy_k rfl rfl ?_ | (refine gO ?_; first | refine sy_ov (ov_p rfl) rfl rfl ?_ | (refine sy_alloc rfl rfl rfl ?_; intro _)))
  refine sy_ov (ov_eqnil rfl rfl) rfl rfl ?_
  repeat (first | refine sy_k rfl rfl ?_ | (refine gO ?_; first | (refine gS ?_; refine sy_store 0 rfl rfl rfl rfl rfl rfl rfl rfl ?_) | refine sy_ov (ov_build rfl rfl rfl) rfl rfl ?_) | (refine sy_cond_t rfl ?_ ?_; focus (first | with_reducible rfl | assumption | omega | (simp <;> first | omega | assumption))) | refine sy_rt ?_)
  exact ret1c 0 rfl rfl rfl rfl rfl rfl
def live14 : List TokT := [(1, 0, 1, [97], 0), (1, 2, 3, [98], 0), (0, 3, 3, [], 0)]
theorem live14_ok : scanR [97, 32, 98] = (live14, 0, 0) := scanR_of (by decide) 5 (by kernel_rfl)
theorem live14_toks : TokOk live14 := (scanR_toks live14_ok (by decide)).1
theorem eqf_ne (e a : Int) : eqL [.int .i64 e, .int .i64 a] [.int .i64 e, .int .i64 a] = true := by simp [eqL, eqC]
set_option maxRecDepth 20000 in
set_option maxHeartbeats 1000000 in
theorem lives14_c (w : World) : Calls Try.prog 46 #[] w fun e w' => e = .returned (.bool true) ∧ Below w.heap.size w w' := by
  refine sy_enter (args := []) rfl rfl ?_
  simp only [initFr]
  repeat (first | refine sy_k rfl rfl ?_ | (refine gO ?_; refine sy_ov (ov_p rfl) rfl rfl ?_))
  refine sy_callE [] rfl rfl rfl (cur_new [97, 32, 98] (by decide)) ?_
  rintro _ _ (⟨_, b, p, q, rfl, rfl⟩ | ⟨hn, _⟩)
  · rw [live14_ok]
    dsimp only
    simp only [curE, List.cons_append, List.nil_append]
    have h1 : CurCalls 54 [S [97]] b p q live14 ⟨0, 0, 0, 0⟩ (.bool true) ⟨1, 0, 0, 0⟩ := cur_word b p q live14 ⟨0, 0, 0, 0⟩ live14_toks ⟨by decide, by decide, by decide, by decide⟩ [97]
    have h2 : CurCalls 55 [S [44]] b p q live14 ⟨1, 0, 0, 0⟩ (.bool false) ⟨1, 0, 4, 2⟩ := cur_need b p q live14 ⟨1, 0, 0, 0⟩ live14_toks ⟨by decide, by decide, by decide, by decide⟩ [44]
    have h3 : CurCalls 50 [] b p q live14 ⟨1, 0, 4, 2⟩ (faultV 4 2) ⟨1, 0, 4, 2⟩ := cur_fault b p q live14 ⟨1, 0, 4, 2⟩
    repeat (first | refine sy_k rfl rfl ?_ | (refine gO ?_; first | refine sy_ov (ov_p rfl) rfl rfl ?_ | (refine gL ?_; refine sy_ov (ov_ld 0 rfl rfl rfl) rfl rfl ?_) | (refine gS ?_; refine sy_store 0 rfl rfl rfl rfl rfl rfl rfl rfl ?_) | refine sy_ov (ov_build rfl rfl rfl) rfl rfl ?_ | (refine sy_alloc rfl rfl rfl ?_; intro _)))
    refine sy_ov (ov_eqst (xs := [.int .i64 0, .int .i64 0]) (ys := [.int .i64 0, .int .i64 0]) rfl rfl rfl rfl) rfl rfl ?_
    rw [eqf_self]
    repeat ((refine gO ?_; first | refine sy_ov (ov_p rfl) rfl rfl ?_ | (refine gG ?_; (refine sy_guard_yes rfl rfl rfl rfl rfl ?_ ?_; focus (first | with_reducible rfl | assumption | omega | (simp <;> first | omega | assumption))))))
    refine sy_rot1 ?_
    refine sy_callE (curE b p q live14 ⟨0, 0, 0, 0⟩) rfl rfl rfl h1 ?_
    rintro _ _ ⟨rfl, rfl⟩
    simp only [curE, List.cons_append, List.nil_append]
    repeat ((refine gO ?_; first | refine sy_ov (ov_p rfl) rfl rfl ?_ | (refine gG ?_; (refine sy_guard_yes rfl rfl rfl rfl rfl ?_ ?_; focus (first | with_reducible rfl | assumption | omega | (simp <;> first | omega | assumption)))) | (refine sy_ov (ov_pick_t rfl rfl ?_) rfl rfl ?_; focus (with_reducible rfl))))
    refine sy_callE (curE b p q live14 ⟨1, 0, 0, 0⟩) rfl rfl rfl h2 ?_
    rintro _ _ ⟨rfl, rfl⟩
    simp only [curE, List.cons_append, List.nil_append]
    repeat ((refine gO ?_; first | refine sy_ov (ov_p rfl) rfl rfl ?_ | (refine gG ?_; (refine sy_guard_yes rfl rfl rfl rfl rfl ?_ ?_; focus (first | with_reducible rfl | assumption | omega | (simp <;> first | omega | assumption)))) | (refine sy_ov (ov_pick_t rfl rfl ?_) rfl rfl ?_; focus (with_reducible rfl))))
    refine sy_callE (curE b p q live14 ⟨1, 0, 4, 2⟩) rfl rfl rfl h3 ?_
    rintro _ _ ⟨rfl, rfl⟩
    simp only [curE, List.cons_append, List.nil_append]
    repeat ((refine gO ?_; first | (refine gG ?_; (refine sy_guard_yes rfl rfl rfl rfl rfl ?_ ?_; focus (first | with_reducible rfl | assumption | omega | (simp <;> first | omega | assumption)))) | refine sy_ov (ov_build rfl rfl rfl) rfl rfl ?_))
    refine sy_ov (ov_eqst (xs := [.int .i64 4, .int .i64 2]) (ys := [.int .i64 4, .int .i64 2]) rfl rfl rfl rfl) rfl rfl ?_
    rw [eqf_self]
    repeat (first | refine sy_k rfl rfl ?_ | (refine gO ?_; first | refine sy_ov (ov_p rfl) rfl rfl ?_ | (refine sy_ov (ov_pick_t rfl rfl ?_) rfl rfl ?_; focus (with_reducible rfl))) | refine sy_rt ?_)
    exact ret1 rfl rfl rfl
  · rw [live14_ok] at hn; exact absurd rfl hn
set_option maxRecDepth 20000 in
set_option maxHeartbeats 2000000 in
theorem cursorNone_walk (s : ByteArray) (hs0 : s.size ≤ 140737488351232) (n : Int) (n1 : -9223372036854775808 ≤ n ∧ n ≤ 9223372036854775807) (w : World) :
    Calls Try.prog 11 #[.string s, .int .i64 n] w fun e w' => e = .returned (.bool true) ∧ Below w.heap.size w w' := by
  obtain ⟨⟨q⟩⟩ := s
  refine sy_enter rfl rfl ?_
  simp only [initFr]
  repeat (first | refine sy_k rfl rfl ?_ | (refine gO ?_; refine sy_ov (ov_p rfl) rfl rfl ?_))
  refine sy_ov (ov_call rfl (fun w _ => none_fail n w)) rfl rfl ?_
  repeat (first | refine sy_k rfl rfl ?_ | (refine gO ?_; refine sy_ov (ov_p rfl) rfl rfl ?_))
  refine sy_ov (ov_call rfl (fun w _ => none_failAt n n w)) rfl rfl ?_
  repeat (first | refine sy_k rfl rfl ?_ | (refine gO ?_; refine sy_ov (ov_p rfl) rfl rfl ?_))
  refine sy_ov (ov_call rfl (fun w _ => none_leave w)) rfl rfl ?_
  repeat (first | refine sy_k rfl rfl ?_ | (refine gO ?_; refine sy_ov (ov_p rfl) rfl rfl ?_))
  refine sy_ov (ov_call rfl (fun w _ => none_take n w)) rfl rfl ?_
  repeat (first | refine sy_k rfl rfl ?_ | (refine gO ?_; first | refine sy_ov (ov_p rfl) rfl rfl ?_ | (refine gS ?_; refine sy_store 0 rfl rfl rfl rfl rfl rfl rfl rfl ?_) | (refine sy_alloc rfl rfl rfl ?_; intro _)))
  refine sy_ov (ov_call rfl (fun w _ => none_peek w)) rfl rfl ?_
  repeat ((refine gO ?_; refine sy_ov (ov_build rfl rfl rfl) rfl rfl ?_))
  refine sy_ov (ov_eqst (xs := [.int .i64 0, .int .i64 0, .int .i64 0, S [], .int .i64 0]) (ys := [.int .i64 0, .int .i64 0, .int .i64 0, S [], .int .i64 0]) rfl rfl rfl rfl) rfl rfl ?_
  rw [zt_self]
  repeat ((refine gO ?_; first | refine sy_ov (ov_p rfl) rfl rfl ?_ | (refine gG ?_; (refine sy_guard_yes rfl rfl rfl rfl rfl ?_ ?_; focus (first | with_reducible rfl | assumption | omega | (simp <;> first | omega | assumption))))))
  refine sy_ov (ov_call rfl (fun w _ => none_next w)) rfl rfl ?_
  repeat ((refine gO ?_; first | (refine gG ?_; (refine sy_guard_yes rfl rfl rfl rfl rfl ?_ ?_; focus (first | with_reducible rfl | assumption | omega | (simp <;> first | omega | assumption)))) | refine sy_ov (ov_build rfl rfl rfl) rfl rfl ?_))
  refine sy_ov (ov_eqst (xs := [.int .i64 0, .int .i64 0, .int .i64 0, S [], .int .i64 0]) (ys := [.int .i64 0, .int .i64 0, .int .i64 0, S [], .int .i64 0]) rfl rfl rfl rfl) rfl rfl ?_
  rw [zt_self]
  repeat ((refine gO ?_; first | refine sy_ov (ov_p rfl) rfl rfl ?_ | (refine gG ?_; (refine sy_guard_yes rfl rfl rfl rfl rfl ?_ ?_; focus (first | with_reducible rfl | assumption | omega | (simp <;> first | omega | assumption)))) | (refine sy_ov (ov_pick_t rfl rfl ?_) rfl rfl ?_; focus (with_reducible rfl))))
  refine sy_ov (ov_call rfl (fun w _ => none_mark q w)) rfl rfl ?_
  repeat ((refine gO ?_; first | refine sy_ov (ov_p rfl) rfl rfl ?_ | (refine gG ?_; (refine sy_guard_yes rfl rfl rfl rfl rfl ?_ ?_; focus (first | with_reducible rfl | assumption | omega | (simp <;> first | omega | assumption)))) | (refine sy_ov (ov_pick_t rfl rfl ?_) rfl rfl ?_; focus (with_reducible rfl))))
  refine sy_ov (ov_call rfl (fun w _ => none_word q w)) rfl rfl ?_
  repeat ((refine gO ?_; first | refine sy_ov (ov_p rfl) rfl rfl ?_ | (refine gG ?_; (refine sy_guard_yes rfl rfl rfl rfl rfl ?_ ?_; focus (first | with_reducible rfl | assumption | omega | (simp <;> first | omega | assumption)))) | (refine sy_ov (ov_pick_t rfl rfl ?_) rfl rfl ?_; focus (with_reducible rfl))))
  refine sy_ov (ov_call rfl (fun w _ => none_need q w)) rfl rfl ?_
  repeat ((refine gO ?_; first | refine sy_ov (ov_p rfl) rfl rfl ?_ | (refine gG ?_; (refine sy_guard_yes rfl rfl rfl rfl rfl ?_ ?_; focus (first | with_reducible rfl | assumption | omega | (simp <;> first | omega | assumption)))) | (refine sy_ov (ov_pick_t rfl rfl ?_) rfl rfl ?_; focus (with_reducible rfl))))
  refine sy_ov (ov_call rfl (fun w _ => none_enter w)) rfl rfl ?_
  repeat ((refine gO ?_; first | refine sy_ov (ov_p rfl) rfl rfl ?_ | (refine gG ?_; (refine sy_guard_yes rfl rfl rfl rfl rfl ?_ ?_; focus (first | with_reducible rfl | assumption | omega | (simp <;> first | omega | assumption)))) | (refine sy_ov (ov_pick_t rfl rfl ?_) rfl rfl ?_; focus (with_reducible rfl))))
  refine sy_ov (ov_call rfl (fun w _ => none_depth w)) rfl rfl ?_
  repeat ((refine gO ?_; first | refine sy_ov (ov_p rfl) rfl rfl ?_ | (refine gG ?_; (refine sy_guard_yes rfl rfl rfl rfl rfl ?_ ?_; focus (first | with_reducible rfl | assumption | omega | (simp <;> first | omega | assumption)))) | (refine sy_ov (ov_pick_t rfl rfl ?_) rfl rfl ?_; focus (with_reducible rfl))))
  refine sy_ov (ov_call rfl (fun w _ => none_fault w)) rfl rfl ?_
  repeat ((refine gO ?_; first | (refine gG ?_; (refine sy_guard_yes rfl rfl rfl rfl rfl ?_ ?_; focus (first | with_reducible rfl | assumption | omega | (simp <;> first | omega | assumption)))) | refine sy_ov (ov_build rfl rfl rfl) rfl rfl ?_))
  refine sy_ov (ov_eqst (xs := [.int .i64 1, .int .i64 0]) (ys := [.int .i64 1, .int .i64 0]) rfl rfl rfl rfl) rfl rfl ?_
  rw [eqf_self]
  repeat ((refine gO ?_; first | refine sy_ov (ov_p rfl) rfl rfl ?_ | (refine gG ?_; (refine sy_guard_yes rfl rfl rfl rfl rfl ?_ ?_; focus (first | with_reducible rfl | assumption | omega | (simp <;> first | omega | assumption)))) | (refine sy_ov (ov_pick_t rfl rfl ?_) rfl rfl ?_; focus (with_reducible rfl))))
  refine sy_ov (ov_call rfl (fun w _ => lives14_c w)) rfl rfl ?_
  repeat (first | refine sy_k rfl rfl ?_ | (refine gO ?_; first | refine sy_ov (ov_p rfl) rfl rfl ?_ | (refine sy_ov (ov_pick_t rfl rfl ?_) rfl rfl ?_; focus (with_reducible rfl))) | refine sy_rt ?_)
  exact ret1 rfl rfl rfl
end Go.Proofs.Yteiejcililponaa
