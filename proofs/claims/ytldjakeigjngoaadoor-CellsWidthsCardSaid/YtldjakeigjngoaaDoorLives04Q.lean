/- blindfoldlaw04.lives answers true. -/
import Derived.Test.YtldjakeigjngoaaDoorBBA
import Derived.Test.YtldjakeigjngoaaDoorCells2Q
set_option linter.unusedVariables false
set_option linter.unusedSimpArgs false
namespace Go.Proofs.YtldjakeigjngoaaDoor
open Go.RowKit Bf
theorem valL_97 : decS [97, 204, 129] = (97, 1, true) := by decide
theorem valL_301 : decS [204, 129] = (769, 2, true) := by decide
theorem unit_97 : unitS [97, 204, 129] = (1, 1) := by
 unfold unitS; rw [if_neg (by simp), valL_97]
 have : runeC 97 = 1 := by kernel_rfl
 rw [this]; rfl
theorem unit_301 : unitS [204, 129] = (0, 2) := by
 unfold unitS; rw [if_neg (by simp), valL_301]
 have : runeC 769 = 0 := by kernel_rfl
 rw [this]; rfl
theorem width_a301 : widthL [97, 204, 129] = 1 := by
 rw [widthL_step _ (by simp), unit_97]
 show 1 + widthL [204, 129] = 1
 rw [widthL_step _ (by simp), unit_301]
 show 1 + (0 + widthL []) = 1
 rw [widthL_nil]; rfl
theorem rune_at (r c : Int) (w : World) (hr : -2147483648 ≤ r ∧ r ≤ 2147483647) (h : Hid (runeC r = c)) :
 Calls Tryd.prog 23 #[.int .i32 r] w fun e w' => e = .returned (.int .i64 c) ∧ Below w.heap.size w w' := by
 have := rune_any r w hr; rw [h.out] at this; exact this
theorem lives04_any (w : World) :
 Calls Tryd.prog 18 #[] w fun e w' => e = .returned (.bool true) ∧ Below w.heap.size w w' := by
 have H1 : Hid (widthL (ByteArray.mk #[97, 204, 129]).data.toList = 1) := width_a301
 have H2 : Hid (runeC 19968 = 2) := by unfold Hid; kernel_rfl
 go_enter Tryd.func18, Tryd.ntmps18
 go_wp2_with (first | (go_at_call 21; refine (width_at _ _ _ (by decide) (by decide) H1).mono ?_; rintro e w1 ⟨rfl, hb⟩) | (go_at_call 23; refine (rune_at _ _ _ ⟨by omega, by omega⟩ H2).mono ?_; rintro e w1 ⟨rfl, hb⟩))
 go_ret
 refine ⟨by rfl, ?_⟩
 repeat (first | exact Below.refl _ _ | refine bl_alloc ?_ _ | refine Below.drew ?_ | refine bl_drewN ?_ _ | refine bl_set ?_ (by first | (simp; done) | (simp; omega)) _ | refine bl_step ?_ (by assumption))
end Go.Proofs.YtldjakeigjngoaaDoor