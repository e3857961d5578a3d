/- The walk of blindfoldlaw04.CellsWidths. -/
import Derived.Test.YtldjakeigjngoaaDoorWidQ
import Derived.Test.YtldjakeigjngoaaDoorLives04Q
import Derived.Test.YtldjakeigjngoaaDoorL1Q
import Derived.Test.YtldjakeigjngoaaDoorBRF
set_option linter.unusedVariables false
set_option linter.unusedSimpArgs false
namespace Go.Proofs.YtldjakeigjngoaaDoor
open Go.RowKit Bf
set_option maxRecDepth 20000 in
set_option maxHeartbeats 4000000 in
theorem cellsWidths_walk (m : Int) (s : List UInt8) (i r : Int) (hs : s.length ≤ 140737488351232) (hi : -9223372036854775808 ≤ i ∧ i ≤ 9223372036854775807) (hr : -2147483648 ≤ r ∧ r ≤ 2147483647) (w : World) (hm : MxW m w) :
 Calls Tryd.prog 5 #[S s, .int .i64 i, .int .i32 r] w fun e w' => e = .returned (.bool true) ∧ Below w.heap.size w w' := by
 have hst : St (fun _ => False) w (fun w => MxW m w) := St.start (MxW.bl m) hm
 by_cases h1 : 600 < s.length
 · refine sy_enter rfl rfl ?_
   simp only [initFr]
   repeat (first | refine yK ?_ | (refine gO ?_; first | refine yP ?_ | (refine gK ?_; refine sy_ov (ov_len rfl) rfl rfl ?_)) | refine yT ?_)
   refine sy_ov (ov_call rfl (fun w _ => lives04_c w)) rfl rfl ?_
   repeat (first | refine yK ?_ | (refine gO ?_; refine yP ?_) | refine sy_rt ?_)
   exact ret1 rfl rfl rfl
 · obtain ⟨c, n, hu⟩ : ∃ c n, unitAt s i = (c, n) := ⟨_, _, rfl⟩
   by_cases h2 : i < 0
   · have h0 : unitAt s i = (0, 0) := by unfold unitAt; rw [if_pos (.inl h2)]
     rw [hu] at h0
     obtain ⟨rfl, rfl⟩ := Prod.mk.inj h0
     refine sy_enter rfl rfl ?_
     simp only [initFr]
     repeat (first | refine yK ?_ | (refine gO ?_; first | refine yP ?_ | (refine gK ?_; refine sy_ov (ov_len rfl) rfl rfl ?_)) | refine yN ?_)
     refine sy_ov (ov_call rfl (fun w _ => unit_c s i 0 0 hu (by omega) hi.1 hi.2 w)) rfl rfl ?_
     repeat (first | refine yK ?_ | (refine gO ?_; first | refine yP ?_ | (refine gG ?_; first | refine yG ?_ | refine yH ?_) | refine yE ?_ | refine sy_ov (ov_pick rfl rfl rfl) rfl rfl ?_) | refine yT ?_ | refine yN ?_)
     refine sy_ov (ov_call rfl (fun w _ => width_c s (widthL s) rfl (by omega) w)) rfl rfl ?_
     repeat ((refine gO ?_; refine yP ?_))
     refine sy_ov (ov_call rfl (fun w _ => rwidth_c s.length s (widthL s) (Nat.le_refl _) rfl (by omega) w)) rfl rfl ?_
     repeat ((refine gO ?_; first | refine yP ?_ | (refine gG ?_; refine yG ?_)))
     refine sy_ov (ov_call rfl (fun w _ => rune_at r (runeC r) w hr rfl)) rfl rfl ?_
     repeat ((refine gO ?_; first | refine yP ?_ | (refine gG ?_; refine yG ?_)))
     refine sy_ov (ov_call rfl (fun w _ => size_c r (runeC r) rfl hr w)) rfl rfl ?_
     repeat ((refine gO ?_; first | refine yP ?_ | (refine gG ?_; refine yG ?_) | refine yM ?_))
     refine sy_ov (ov_call rfl (fun w hw => widest_c s m w (by omega) (hst.at hw))) rfl rfl ?_
     repeat ((refine gO ?_; first | refine yP ?_ | (refine gG ?_; refine yG ?_)))
     refine sy_ov (ov_call rfl (fun w _ => rwidest_c s w (by omega))) rfl rfl ?_
     repeat ((refine gO ?_; first | refine yP ?_ | (refine gG ?_; refine yG ?_) | refine yM ?_))
     refine sy_ov (ov_call rfl (fun w _ => lives04_c w)) rfl rfl ?_
     repeat (first | refine yK ?_ | (refine gO ?_; first | refine yP ?_ | refine yM ?_) | refine sy_rt ?_)
     exact ret1 rfl rfl rfl
   · by_cases h3 : (s.length : Int) ≤ i
     · have h0 : unitAt s i = (0, 0) := by unfold unitAt; rw [if_pos (.inr h3)]
       rw [hu] at h0
       obtain ⟨rfl, rfl⟩ := Prod.mk.inj h0
       refine sy_enter rfl rfl ?_
       simp only [initFr]
       repeat (first | refine yK ?_ | (refine gO ?_; first | refine yP ?_ | (refine gK ?_; refine sy_ov (ov_len rfl) rfl rfl ?_)) | refine yN ?_)
       refine sy_ov (ov_call rfl (fun w _ => unit_c s i 0 0 hu (by omega) hi.1 hi.2 w)) rfl rfl ?_
       repeat (first | refine yK ?_ | (refine gO ?_; first | refine yP ?_ | (refine gG ?_; refine yG ?_) | (refine gK ?_; refine sy_ov (ov_len rfl) rfl rfl ?_) | refine yE ?_) | refine yT ?_ | refine yN ?_)
       refine sy_ov (ov_call rfl (fun w _ => width_c s (widthL s) rfl (by omega) w)) rfl rfl ?_
       repeat ((refine gO ?_; refine yP ?_))
       refine sy_ov (ov_call rfl (fun w _ => rwidth_c s.length s (widthL s) (Nat.le_refl _) rfl (by omega) w)) rfl rfl ?_
       repeat ((refine gO ?_; first | refine yP ?_ | (refine gG ?_; refine yG ?_)))
       refine sy_ov (ov_call rfl (fun w _ => rune_at r (runeC r) w hr rfl)) rfl rfl ?_
       repeat ((refine gO ?_; first | refine yP ?_ | (refine gG ?_; refine yG ?_)))
       refine sy_ov (ov_call rfl (fun w _ => size_c r (runeC r) rfl hr w)) rfl rfl ?_
       repeat ((refine gO ?_; first | refine yP ?_ | (refine gG ?_; refine yG ?_) | refine yM ?_))
       refine sy_ov (ov_call rfl (fun w hw => widest_c s m w (by omega) (hst.at hw))) rfl rfl ?_
       repeat ((refine gO ?_; first | refine yP ?_ | (refine gG ?_; refine yG ?_)))
       refine sy_ov (ov_call rfl (fun w _ => rwidest_c s w (by omega))) rfl rfl ?_
       repeat ((refine gO ?_; first | refine yP ?_ | (refine gG ?_; refine yG ?_) | refine yM ?_))
       refine sy_ov (ov_call rfl (fun w _ => lives04_c w)) rfl rfl ?_
       repeat (first | refine yK ?_ | (refine gO ?_; first | refine yP ?_ | refine yM ?_) | refine sy_rt ?_)
       exact ret1 rfl rfl rfl
     · refine sy_enter rfl rfl ?_
       simp only [initFr]
       repeat (first | refine yK ?_ | (refine gO ?_; first | refine yP ?_ | (refine gK ?_; refine sy_ov (ov_len rfl) rfl rfl ?_)) | refine yN ?_)
       refine sy_ov (ov_call rfl (fun w _ => unit_c s i c n hu (by omega) hi.1 hi.2 w)) rfl rfl ?_
       repeat (first | refine yK ?_ | (refine gO ?_; first | refine yP ?_ | (refine gG ?_; refine yG ?_) | (refine gK ?_; refine sy_ov (ov_len rfl) rfl rfl ?_) | refine yE ?_) | refine yN ?_)
       refine sy_ov (ov_call rfl (fun w _ => runit4_c s i c n hu (by omega) (by omega) (by omega) w)) rfl rfl ?_
       repeat (first | refine yK ?_ | (refine gO ?_; first | refine yP ?_ | (refine gG ?_; refine yG ?_) | refine yE ?_) | refine yN ?_)
       refine sy_ov (ov_call rfl (fun w _ => width_c s (widthL s) rfl (by omega) w)) rfl rfl ?_
       repeat ((refine gO ?_; refine yP ?_))
       refine sy_ov (ov_call rfl (fun w _ => rwidth_c s.length s (widthL s) (Nat.le_refl _) rfl (by omega) w)) rfl rfl ?_
       repeat ((refine gO ?_; first | refine yP ?_ | (refine gG ?_; refine yG ?_)))
       refine sy_ov (ov_call rfl (fun w _ => rune_at r (runeC r) w hr rfl)) rfl rfl ?_
       repeat ((refine gO ?_; first | refine yP ?_ | (refine gG ?_; refine yG ?_)))
       refine sy_ov (ov_call rfl (fun w _ => size_c r (runeC r) rfl hr w)) rfl rfl ?_
       repeat ((refine gO ?_; first | refine yP ?_ | (refine gG ?_; refine yG ?_) | refine yM ?_))
       refine sy_ov (ov_call rfl (fun w hw => widest_c s m w (by omega) (hst.at hw))) rfl rfl ?_
       repeat ((refine gO ?_; first | refine yP ?_ | (refine gG ?_; refine yG ?_)))
       refine sy_ov (ov_call rfl (fun w _ => rwidest_c s w (by omega))) rfl rfl ?_
       repeat ((refine gO ?_; first | refine yP ?_ | (refine gG ?_; refine yG ?_) | refine yM ?_))
       refine sy_ov (ov_call rfl (fun w _ => lives04_c w)) rfl rfl ?_
       repeat (first | refine yK ?_ | (refine gO ?_; first | refine yP ?_ | refine yM ?_) | refine sy_rt ?_)
       exact ret1 rfl rfl rfl
end Go.Proofs.YtldjakeigjngoaaDoor