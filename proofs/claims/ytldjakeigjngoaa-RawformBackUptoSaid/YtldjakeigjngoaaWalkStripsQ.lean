/- The walk of blindfoldlaw23.RawformStrips. -/
import Derived.Test.YtldjakeigjngoaaBFM
import Derived.Test.YtldjakeigjngoaaBST
import Derived.Test.YtldjakeigjngoaaBST
set_option linter.unusedVariables false
set_option linter.unusedSimpArgs false
namespace Go.Proofs.Ytldjakeigjngoaa
open Go.RowKit Bf
set_option maxRecDepth 20000 in
set_option maxHeartbeats 4000000 in
theorem great23_c (z : RawA) (n : Int) (hn : cntW (plR z) = n) (w : World) (hz : RawJ w z) : Calls Try.prog 26 #[.agg ⟨rawV z⟩] w fun e w' => e = .returned (.bool (decide (5000 < n))) ∧ Below w.heap.size w w' := by
 have hJ : St (fun _ => False) w (fun w => RawJ w z) := St.start (RawJ.bl z) hz
 have hs := fun w h => size_c22 _ z (Nat.le_refl _) w h
 rw [hn] at hs
 obtain ⟨k, a, n', s, pk, ck, keys, p, c, kids⟩ := z
 refine sy_enter rfl rfl ?_
 simp only [initFr]
 repeat (first | refine sy_k rfl rfl ?_ | (refine gO ?_; first | refine sy_ov (ov_p rfl) rfl rfl ?_ | (refine gL ?_; refine sy_ov (ov_ld 0 rfl rfl rfl) rfl rfl ?_) | (refine sy_box rfl rfl rfl ?_; intro _)))
 refine sy_ov (ov_call rfl (fun w hw => hs w (hJ.at hw))) rfl rfl ?_
 repeat (first | refine sy_k rfl rfl ?_ | (refine gO ?_; refine sy_ov (ov_p rfl) rfl rfl ?_) | refine sy_rt ?_)
 exact ret1 rfl rfl rfl
end Go.Proofs.Ytldjakeigjngoaa