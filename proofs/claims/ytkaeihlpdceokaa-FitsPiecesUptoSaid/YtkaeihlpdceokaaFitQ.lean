/- Contracts: the piece of a document without others in it, on both sides; is a document right (the document's side). -/
import Derived.Test.YtkaeihlpdceokaaPlainFitQ
import Derived.Test.YtkaeihlpdceokaaUtf8Q
import Derived.Test.YtkaeihlpdceokaaBRF
import Derived.Test.YtkaeihlpdceokaaBRC
import Derived.Test.YtkaeihlpdceokaaBRC
import Derived.Test.YtkaeihlpdceokaaBSX
set_option linter.unusedVariables false
set_option linter.unusedSimpArgs false
namespace Go.Proofs.Ytkaeihlpdceokaa
open Go.RowKit Bf
set_option maxRecDepth 20000 in
set_option maxHeartbeats 4000000 in
theorem leaf_c (k n : Int) (s : List UInt8) (p : Option Addr) (c : Nat) (kids : List DocA) (ind : Int) (hs : s.length ≤ 4000000000000) (w : World) : Calls Try.prog 12 #[.agg ⟨docV (.mk k n s p c kids)⟩, .int .i64 ind] w fun e w' => e = .returned (.agg ⟨pieV (leafP k s ind)⟩) ∧ Below w.heap.size w w' := by
 obtain ⟨W, hW⟩ : ∃ W, widthL s = W := ⟨_, rfl⟩
 have hwc := width_c s W hW (by omega)
 by_cases k1 : k = 1
 · have e1 : leafP k s ind = ⟨k, W, ind, 0, s⟩ := by simp [leafP, k1, hW]
   rw [e1]
   refine sy_enter rfl rfl ?_
   simp only [initFr]
   repeat (first | refine yK ?_ | (refine gO ?_; first | refine yP ?_ | (refine gL ?_; first | refine yL 1 ?_ | refine yL 2 ?_) | (refine gS ?_; refine yS 0 ?_) | refine yF ?_ | refine yB ?_ | (refine sy_box rfl rfl rfl ?_; intro _) | (refine yA ?_; intro _)) | refine yT ?_)
   refine sy_drawE _ 7 [(0, false), (1, false), (2, false), (3, false), (4, false), (5, false), (6, true)] (by kernel_rfl) rfl (sd (sk (sk sr))) ?_
   repeat (first | refine dre_rd (fun _ _ => ov_ld 1 rfl rfl rfl) rfl ?_ | refine dre_rd (fun _ _ => ov_fieldAddr rfl rfl rfl) rfl ?_)
   refine dre_rd (fun _ _ => ov_call rfl (fun w _ => hwc w)) rfl ?_
   repeat (first | refine dre_rd (fun _ _ => ov_ld 1 rfl rfl rfl) rfl ?_ | refine dre_rd (fun _ _ => ov_fieldAddr rfl rfl rfl) rfl ?_ | (refine dre_ef rfl ?_; refine yS 0 ?_; refine dre_ek (by repeat first | exact sr | apply sk | apply sd) ?_) | refine dre_end ?_)
   repeat (first | refine yK ?_ | (refine gO ?_; first | (refine gL ?_; refine yL 0 ?_) | (refine gS ?_; first | refine yS 0 ?_ | refine yS 1 ?_) | refine yF ?_) | refine sy_rt ?_)
   exact ret1c 1 rfl rfl rfl rfl rfl rfl
 · by_cases k2 : k = 2
   · have e1 : leafP k s ind = ⟨k, 1, ind, 0, []⟩ := by simp [leafP, k2]
     rw [e1]
     refine sy_enter rfl rfl ?_
     simp only [initFr]
     repeat (first | refine yK ?_ | (refine gO ?_; first | refine yP ?_ | (refine gL ?_; first | refine yL 0 ?_ | refine yL 1 ?_ | refine yL 2 ?_) | (refine gS ?_; first | refine yS 0 ?_ | refine yS 1 ?_) | refine yF ?_ | refine yB ?_ | (refine sy_box rfl rfl rfl ?_; intro _) | (refine yA ?_; intro _)) | refine yT ?_ | refine yN ?_ | refine sy_rt ?_)
     exact ret1c 1 rfl rfl rfl rfl rfl rfl
   · have e1 : leafP k s ind = ⟨k, 0, ind, 0, []⟩ := by simp [leafP, k1, k2]
     rw [e1]
     refine sy_enter rfl rfl ?_
     simp only [initFr]
     repeat (first | refine yK ?_ | (refine gO ?_; first | refine yP ?_ | (refine gL ?_; first | refine yL 0 ?_ | refine yL 1 ?_ | refine yL 2 ?_) | (refine gS ?_; first | refine yS 0 ?_ | refine yS 1 ?_) | refine yF ?_ | refine yB ?_ | (refine sy_box rfl rfl rfl ?_; intro _) | (refine yA ?_; intro _)) | refine yN ?_ | refine sy_rt ?_)
     exact ret1c 1 rfl rfl rfl rfl rfl rfl
end Go.Proofs.Ytkaeihlpdceokaa