/- Contracts of the reference of layer 4: Unit, Width; columns of texts that are well-formed. -/
import Derived.Test.YteiejcililponaaRef3Q
import Derived.Test.YteiejcililponaaPlainEsc2Q
set_option linter.unusedVariables false
set_option linter.unusedSimpArgs false
namespace Go.Proofs.Yteiejcililponaa
open Go.RowKit Bf
set_option maxRecDepth 20000 in
set_option maxHeartbeats 1000000 in
theorem runit4_c (s : List UInt8) (i c : Int) (n : Nat) (h : unitAt s i = (c, n)) (h0 : 0 ≤ i) (h1 : i < s.length) (hs : s.length ≤ 4611686018427387000) (w : World) :
    Calls Try.prog 100 #[S s, .int .i64 i] w fun e w' => e = .returned (.tuple #[.int .i64 c, .int .i64 (n : Int)]) ∧ Below w.heap.size w w' := by
  obtain ⟨r, m, ok, hd⟩ := trip (decAt s i)
  have hv := decS_val2 (s.drop i.toNat)
  have hd' := hd
  rw [decAt_in' s i h0 h1] at hd'
  rw [hd'] at hv
  simp only at hv
  have hu : unitAt s i = unitS (s.drop i.toNat) := by unfold unitAt; rw [if_neg (by omega)]
  have hne : s.drop i.toNat ≠ [] := by intro e; have := congrArg List.length e; simp at this; omega
  rw [hu] at h
  cases ok
  · rw [unitS_bad _ r m hne hd'] at h
    obtain ⟨rfl, rfl⟩ := Prod.mk.inj h
    refine sy_enter rfl rfl ?_
    simp only [initFr]
    repeat (first | refine sy_k rfl rfl ?_ | (refine gO ?_; refine sy_ov (ov_p rfl) rfl rfl ?_))
    refine sy_ov (ov_call rfl (fun w _ => rdecode_c s i r m false hd hs (by omega) (by omega) w)) rfl rfl ?_
    repeat (first | refine sy_k rfl rfl ?_ | (refine gO ?_; refine sy_ov (ov_p rfl) rfl rfl ?_) | (refine sy_cond_t rfl ?_ ?_; focus (first | with_reducible rfl | assumption | omega | (simp <;> first | omega | assumption))) | refine sy_rt ?_)
    exact ret2 rfl rfl rfl rfl
  · rw [unitS_ok _ r m hne hd'] at h
    obtain ⟨rfl, rfl⟩ := Prod.mk.inj h
    refine sy_enter rfl rfl ?_
    simp only [initFr]
    repeat (first | refine sy_k rfl rfl ?_ | (refine gO ?_; refine sy_ov (ov_p rfl) rfl rfl ?_))
    refine sy_ov (ov_call rfl (fun w _ => rdecode_c s i r m true hd hs (by omega) (by omega) w)) rfl rfl ?_
    repeat (first | refine sy_k rfl rfl ?_ | (refine gO ?_; refine sy_ov (ov_p rfl) rfl rfl ?_) | (refine sy_cond_f rfl ?_ ?_; focus (first | with_reducible rfl | assumption | omega | (simp <;> first | omega | assumption))))
    refine sy_ov (ov_call rfl (fun w _ => size_c r _ rfl (by omega) w)) rfl rfl ?_
    repeat (first | refine sy_k rfl rfl ?_ | (refine gO ?_; refine sy_ov (ov_p rfl) rfl rfl ?_) | refine sy_rt ?_)
    exact ret2 rfl rfl rfl rfl
end Go.Proofs.Yteiejcililponaa
