/- The walk of blindfoldlaw01.UtfEncodes. -/
import Derived.Test.YteohofgmkiagoaaUtf4
set_option linter.unusedVariables false
set_option linter.unusedSimpArgs false
namespace Go.Proofs.Yteohofgmkiagoaa
open Go.RowKit Bf
theorem utfEncodes_walk (n : Int) (hn : -2147483648 ≤ n ∧ n ≤ 2147483647) (w : World) :
    Calls Try.prog 7 #[.int .i32 n] w fun e w' => e = .returned (.bool true) ∧ Below w.heap.size w w' := by
  obtain ⟨b, hb⟩ : ∃ b, scalarB n = b := ⟨_, rfl⟩
  have HS := Lib.hid hb
  clear hb
  go_enter Try.func7, Try.ntmps7
  go_wp2_with (first | (go_at_call 26; refine (lives01_any _).mono ?_; rintro e w1 ⟨rfl, hb⟩) | (go_at_call 27; refine (encode_any _ _).mono ?_; rintro e w1 ⟨rfl, hb⟩) | (go_at_call 28; refine (rencode_any _ _).mono ?_; rintro e w1 ⟨rfl, hb⟩) | (go_at_call 29; refine (scalar_at _ _ _ HS).mono ?_; rintro e w1 ⟨rfl, rfl⟩) | (go_at_call 30; refine (rscalar_at _ _ _ HS).mono ?_; rintro e w1 ⟨rfl, rfl⟩))
  all_goals (go_ret; refine ⟨by first | rfl | simp, ?_⟩)
  repeat (first | exact Below.refl _ _ | refine bl_alloc ?_ _ | refine Below.drew ?_ | refine bl_drewN ?_ _ | refine bl_set ?_ (by first | (simp; done) | (simp; omega)) _ | refine bl_step ?_ (by assumption))
end Go.Proofs.Yteohofgmkiagoaa
