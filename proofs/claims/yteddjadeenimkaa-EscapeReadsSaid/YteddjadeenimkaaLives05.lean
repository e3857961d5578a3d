/- Contract of blindfoldlaw05.lives. -/
import Derived.Test.YteddjadeenimkaaEsc
import Derived.Test.YteddjadeenimkaaPlainEsc2
set_option linter.unusedVariables false
set_option linter.unusedSimpArgs false
namespace Go.Proofs.Yteddjadeenimkaa
open Go.RowKit Bf
set_option maxRecDepth 20000 in
theorem lives05_c (w : World) : Calls Try.prog 20 #[] w fun e w' => e = .returned (.bool true) ∧ Below w.heap.size w w' := by
  refine sy_enter (args := []) rfl rfl ?_
  simp only [initFr]
  repeat (first | refine sy_k rfl rfl ?_ | (refine gO ?_; refine sy_ov (ov_p rfl) rfl rfl ?_))
  refine sy_ov (ov_call rfl (fun w _ => quote_c [27, 255] _ quoteL_ex (by decide) w)) rfl rfl ?_
  repeat (first | refine sy_k rfl rfl ?_ | (refine gO ?_; refine sy_ov (ov_p rfl) rfl rfl ?_) | refine sy_rt ?_)
  exact ret1 rfl rfl rfl
end Go.Proofs.Yteddjadeenimkaa
