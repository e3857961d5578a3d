/- BU3: texts of this proof, joined by program: Utf3, Utf4. -/
import Derived.Test.YtldjakeigjngoaaDoorBUA
/- Contracts: Scalar and Encode, of the program and of the reference. -/
set_option linter.unusedVariables false
set_option linter.unusedSimpArgs false
namespace Go.Proofs.YtldjakeigjngoaaDoor
open Go.RowKit Bf
theorem rscalar_any (n : Int) (w : World) : Calls Tryd.prog 55 #[.int .i32 n] w fun e w' => e = .returned (.bool (scalarB n)) ∧ w = w' := by
 cases hb : scalarB n
 · have HR : Hid (scalarB n = false) := hb
   rcases scalarB_false hb with h | h | ⟨h, h'⟩
   · clear hb
     go_enter Tryd.func55, Tryd.ntmps55
     go_wp2
     all_goals (go_ret; exact ⟨by first | rfl | (simp; try omega), rfl⟩)
   · clear hb
     have h0 : 0 ≤ n := by omega
     go_enter Tryd.func55, Tryd.ntmps55
     go_wp2
     all_goals (go_ret; exact ⟨by first | rfl | (simp; try omega), rfl⟩)
   · clear hb
     have h0 : 0 ≤ n := by omega
     have h1 : n ≤ 1114111 := by omega
     go_enter Tryd.func55, Tryd.ntmps55
     go_wp2
     all_goals (go_ret; exact ⟨by first | rfl | (simp; try omega), rfl⟩)
 · have HR : Hid (scalarB n = true) := hb
   obtain ⟨h0, h1, h2⟩ := scalarB_true hb
   clear hb
   by_cases h3 : n < 55296
   · clear h2
     go_enter Tryd.func55, Tryd.ntmps55
     go_wp2
     all_goals (go_ret; exact ⟨by first | rfl | (simp; try omega), rfl⟩)
   · have h4 : 57343 < n := by omega
     clear h2
     go_enter Tryd.func55, Tryd.ntmps55
     go_wp2
     all_goals (go_ret; exact ⟨by first | rfl | (simp; try omega), rfl⟩)
theorem rscalar_at (n : Int) (b : Bool) (w : World) (h : Hid (scalarB n = b)) : Calls Tryd.prog 55 #[.int .i32 n] w fun e w' => e = .returned (.bool b) ∧ w = w' := by
 have := rscalar_any n w; rw [h.out] at this; exact this
set_option maxHeartbeats 1000000 in
theorem rencode_any (n : Int) (w : World) : Calls Tryd.prog 56 #[.int .i32 n] w fun e w' => e = .returned (.string (encB n)) ∧ Below w.heap.size w w' := by
 cases hb : scalarB n
 · have HS : Hid (scalarB n = false) := hb
   have HR : Hid (encB n = ⟨#[]⟩) := by unfold encB; rw [encL_no n hb]; rfl
   clear hb
   go_enter Tryd.func56, Tryd.ntmps56
   go_wp2_with (go_at_call 55; refine (rscalar_at _ _ _ HS).mono ?_; rintro e w1 ⟨rfl, rfl⟩)
   go_ret
   refine ⟨by rw [HR.out]; rfl, ?_⟩
   repeat (first | exact Below.refl _ _ | refine bl_alloc ?_ _ | refine Below.drew ?_ | refine bl_drewN ?_ _ | refine bl_set ?_ (by first | (simp; done) | (simp; omega)) _ | refine bl_step ?_ (by assumption))
 · have HS : Hid (scalarB n = true) := hb
   obtain ⟨h0, h1, h2⟩ := scalarB_true hb
   by_cases c1 : n < 128
   · have HR : Hid (encB n = ⟨#[u8 n]⟩) := by unfold encB; rw [encL_1 n hb c1]; rfl
     clear hb h2
     go_enter Tryd.func56, Tryd.ntmps56
     go_wp2_with (go_at_call 55; refine (rscalar_at _ _ _ HS).mono ?_; rintro e w1 ⟨rfl, rfl⟩)
     go_ret
     refine ⟨by rw [HR.out]; rfl, ?_⟩
     repeat (first | exact Below.refl _ _ | refine bl_alloc ?_ _ | refine Below.drew ?_ | refine bl_drewN ?_ _ | refine bl_set ?_ (by first | (simp; done) | (simp; omega)) _ | refine bl_step ?_ (by assumption))
   by_cases c2 : n < 2048
   · have HR : Hid (encB n = ⟨#[u8 (192 + n / 64), u8 (128 + n % 64)]⟩) := by unfold encB; rw [encL_2 n hb c1 c2]; rfl
     clear hb h2
     go_enter Tryd.func56, Tryd.ntmps56
     go_wp2_with (go_at_call 55; refine (rscalar_at _ _ _ HS).mono ?_; rintro e w1 ⟨rfl, rfl⟩)
     go_ret
     refine ⟨by rw [HR.out]; rfl, ?_⟩
     repeat (first | exact Below.refl _ _ | refine bl_alloc ?_ _ | refine Below.drew ?_ | refine bl_drewN ?_ _ | refine bl_set ?_ (by first | (simp; done) | (simp; omega)) _ | refine bl_step ?_ (by assumption))
   by_cases c3 : n < 65536
   · have HR : Hid (encB n = ⟨#[u8 (224 + n / 4096), u8 (128 + n / 64 % 64), u8 (128 + n % 64)]⟩) := by unfold encB; rw [encL_3 n hb c1 c2 c3]; rfl
     clear hb h2
     go_enter Tryd.func56, Tryd.ntmps56
     go_wp2_with (go_at_call 55; refine (rscalar_at _ _ _ HS).mono ?_; rintro e w1 ⟨rfl, rfl⟩)
     go_ret
     refine ⟨by rw [HR.out]; rfl, ?_⟩
     repeat (first | exact Below.refl _ _ | refine bl_alloc ?_ _ | refine Below.drew ?_ | refine bl_drewN ?_ _ | refine bl_set ?_ (by first | (simp; done) | (simp; omega)) _ | refine bl_step ?_ (by assumption))
   · have HR : Hid (encB n = ⟨#[u8 (240 + n / 262144), u8 (128 + n / 4096 % 64), u8 (128 + n / 64 % 64), u8 (128 + n % 64)]⟩) := by unfold encB; rw [encL_4 n hb c1 c2 c3]; rfl
     clear hb h2
     go_enter Tryd.func56, Tryd.ntmps56
     go_wp2_with (go_at_call 55; refine (rscalar_at _ _ _ HS).mono ?_; rintro e w1 ⟨rfl, rfl⟩)
     go_ret
     refine ⟨by rw [HR.out]; rfl, ?_⟩
     repeat (first | exact Below.refl _ _ | refine bl_alloc ?_ _ | refine Below.drew ?_ | refine bl_drewN ?_ _ | refine bl_set ?_ (by first | (simp; done) | (simp; omega)) _ | refine bl_step ?_ (by assumption))
end Go.Proofs.YtldjakeigjngoaaDoor
/- Contracts: utf.Bad, Valid, Count. -/
namespace Go.Proofs.YtldjakeigjngoaaDoor
open Go.RowKit Bf
theorem drop_ne (s : ByteArray) (k : Nat) (h : k < s.size) : s.data.toList.drop k ≠ [] := by
 intro e; have := congrArg List.length e; simp at this; omega
end Go.Proofs.YtldjakeigjngoaaDoor