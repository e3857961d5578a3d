/- The walk of blindfoldlaw01.UtfDecodes. -/
import Derived.Test.YteohofgmkiagoaaUtf7
set_option linter.unusedVariables false
set_option linter.unusedSimpArgs false
namespace Go.Proofs.Yteohofgmkiagoaa
open Go.RowKit Bf
theorem utfDecodes_walk (s : ByteArray) (hs0 : s.size ≤ 140737488351232) (a : Int) (ha : -9223372036854775808 ≤ a ∧ a ≤ 9223372036854775807) (w : World) :
    Calls Try.prog 6 #[.string s, .int .i64 a] w fun e w' => e = .returned (.bool true) ∧ Below w.heap.size w w' := by
  have hs : s.size ≤ maxLen := by unfold maxLen; omega
  obtain ⟨r, n, b, hd⟩ : ∃ r n b, decAt s.data.toList a = (r, n, b) := ⟨_, _, _, rfl⟩
  have HD := Lib.hid hd
  clear hd
  go_enter Try.func6, Try.ntmps6
  go_wp2_with (first | (go_at_call 26; refine (lives01_any _).mono ?_; rintro e w1 ⟨rfl, hb⟩) | (go_at_call 24; refine (decode_at _ _ _ _ _ _ hs ha HD).mono ?_; rintro e w1 ⟨rfl, hb⟩) | (go_at_call 25; refine (rdecode_at _ _ _ _ _ _ hs ha HD).mono ?_; rintro e w1 ⟨rfl, hb⟩))
  all_goals (go_ret; refine ⟨by first | rfl | simp, ?_⟩)
  repeat (first | exact Below.refl _ _ | refine bl_alloc ?_ _ | refine Below.drew ?_ | refine bl_drewN ?_ _ | refine bl_set ?_ (by first | (simp; done) | (simp; omega)) _ | refine bl_step ?_ (by assumption))
end Go.Proofs.Yteohofgmkiagoaa
