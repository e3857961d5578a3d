/- BU3: texts of this proof, joined by program: Utf3, Utf4. -/
import Derived.Test.YtldjakeigjngoaaGreatBUA
/- Contracts: Scalar and Encode, of the program and of the reference. -/
set_option linter.unusedVariables false
set_option linter.unusedSimpArgs false
namespace Go.Proofs.YtldjakeigjngoaaGreat
open Go.RowKit Bf
theorem scalar_any (n : Int) (w : World) : Calls Tryz.prog 154 #[.int .i32 n] w fun e w' => e = .returned (.bool (scalarB n)) ∧ w = w' := by
 cases hb : scalarB n
 · have HR : Hid (scalarB n = false) := hb
   rcases scalarB_false hb with h | h | ⟨h, h'⟩
   · clear hb
     go_enter Tryz.func154, Tryz.ntmps154
     go_wp2
     all_goals (go_ret; exact ⟨by first | rfl | (simp; try omega), rfl⟩)
   · clear hb
     have h0 : 0 ≤ n := by omega
     go_enter Tryz.func154, Tryz.ntmps154
     go_wp2
     all_goals (go_ret; exact ⟨by first | rfl | (simp; try omega), rfl⟩)
   · clear hb
     have h0 : 0 ≤ n := by omega
     have h1 : n ≤ 1114111 := by omega
     go_enter Tryz.func154, Tryz.ntmps154
     go_wp2
     all_goals (go_ret; exact ⟨by first | rfl | (simp; try omega), rfl⟩)
 · have HR : Hid (scalarB n = true) := hb
   obtain ⟨h0, h1, h2⟩ := scalarB_true hb
   clear hb
   by_cases h3 : n < 55296
   · clear h2
     go_enter Tryz.func154, Tryz.ntmps154
     go_wp2
     all_goals (go_ret; exact ⟨by first | rfl | (simp; try omega), rfl⟩)
   · have h4 : 57343 < n := by omega
     clear h2
     go_enter Tryz.func154, Tryz.ntmps154
     go_wp2
     all_goals (go_ret; exact ⟨by first | rfl | (simp; try omega), rfl⟩)
theorem rscalar_any (n : Int) (w : World) : Calls Tryz.prog 86 #[.int .i32 n] w fun e w' => e = .returned (.bool (scalarB n)) ∧ w = w' := by
 cases hb : scalarB n
 · have HR : Hid (scalarB n = false) := hb
   rcases scalarB_false hb with h | h | ⟨h, h'⟩
   · clear hb
     go_enter Tryz.func86, Tryz.ntmps86
     go_wp2
     all_goals (go_ret; exact ⟨by first | rfl | (simp; try omega), rfl⟩)
   · clear hb
     have h0 : 0 ≤ n := by omega
     go_enter Tryz.func86, Tryz.ntmps86
     go_wp2
     all_goals (go_ret; exact ⟨by first | rfl | (simp; try omega), rfl⟩)
   · clear hb
     have h0 : 0 ≤ n := by omega
     have h1 : n ≤ 1114111 := by omega
     go_enter Tryz.func86, Tryz.ntmps86
     go_wp2
     all_goals (go_ret; exact ⟨by first | rfl | (simp; try omega), rfl⟩)
 · have HR : Hid (scalarB n = true) := hb
   obtain ⟨h0, h1, h2⟩ := scalarB_true hb
   clear hb
   by_cases h3 : n < 55296
   · clear h2
     go_enter Tryz.func86, Tryz.ntmps86
     go_wp2
     all_goals (go_ret; exact ⟨by first | rfl | (simp; try omega), rfl⟩)
   · have h4 : 57343 < n := by omega
     clear h2
     go_enter Tryz.func86, Tryz.ntmps86
     go_wp2
     all_goals (go_ret; exact ⟨by first | rfl | (simp; try omega), rfl⟩)
theorem scalar_at (n : Int) (b : Bool) (w : World) (h : Hid (scalarB n = b)) : Calls Tryz.prog 154 #[.int .i32 n] w fun e w' => e = .returned (.bool b) ∧ w = w' := by
 have := scalar_any n w; rw [h.out] at this; exact this
theorem rscalar_at (n : Int) (b : Bool) (w : World) (h : Hid (scalarB n = b)) : Calls Tryz.prog 86 #[.int .i32 n] w fun e w' => e = .returned (.bool b) ∧ w = w' := by
 have := rscalar_any n w; rw [h.out] at this; exact this
theorem further_any (r : Int) (w : World) (h0 : 0 ≤ r) (h1 : r < 2147483648) : Calls Tryz.prog 155 #[.int .i32 r] w fun e w' => e = .returned (.int .u8 (128 + r % 64)) ∧ w = w' := by
 have e1 : bits .and .i32 r 63 = r % 64 := bits_mask .i32 31 (by decide) wraps_i32 6 (by decide) r h0 h1
 have e2 : bits .or .u8 128 (r % 64) = 128 + r % 64 := u8_or128 _ (by omega) (by omega)
 have e3 : (r % 64) % 256 = r % 64 := by omega
 go_enter Tryz.func155, Tryz.ntmps155
 go_wp2
 go_ret
 exact ⟨rfl, rfl⟩
set_option maxHeartbeats 1000000 in
theorem encode_any (n : Int) (w : World) : Calls Tryz.prog 152 #[.int .i32 n] w fun e w' => e = .returned (.string (encB n)) ∧ Below w.heap.size w w' := by
 cases hb : scalarB n
 · have HS : Hid (scalarB n = false) := hb
   have HR : Hid (encB n = ⟨#[]⟩) := by unfold encB; rw [encL_no n hb]; rfl
   clear hb
   go_enter Tryz.func152, Tryz.ntmps152
   go_wp2_with (first | (go_at_call 154; refine (scalar_at _ _ _ HS).mono ?_; rintro e w1 ⟨rfl, rfl⟩) | (go_at_call 155; refine (further_any _ _ (by omega) (by omega)).mono ?_; rintro e w1 ⟨rfl, rfl⟩))
   go_ret
   refine ⟨by rw [HR.out]; rfl, ?_⟩
   repeat (first | exact Below.refl _ _ | refine bl_alloc ?_ _ | refine Below.drew ?_ | refine bl_drewN ?_ _ | refine bl_set ?_ (by first | (simp; done) | (simp; omega)) _ | refine bl_step ?_ (by assumption))
 · have HS : Hid (scalarB n = true) := hb
   obtain ⟨h0, h1, h2⟩ := scalarB_true hb
   by_cases c1 : n < 128
   · have HR : Hid (encB n = ⟨#[u8 n]⟩) := by unfold encB; rw [encL_1 n hb c1]; rfl
     clear hb h2
     go_enter Tryz.func152, Tryz.ntmps152
     go_wp2_with (first | (go_at_call 154; refine (scalar_at _ _ _ HS).mono ?_; rintro e w1 ⟨rfl, rfl⟩) | (go_at_call 155; refine (further_any _ _ (by omega) (by omega)).mono ?_; rintro e w1 ⟨rfl, rfl⟩))
     go_ret
     refine ⟨by rw [HR.out]; rfl, ?_⟩
     repeat (first | exact Below.refl _ _ | refine bl_alloc ?_ _ | refine Below.drew ?_ | refine bl_drewN ?_ _ | refine bl_set ?_ (by first | (simp; done) | (simp; omega)) _ | refine bl_step ?_ (by assumption))
   by_cases c2 : n < 2048
   · have HR : Hid (encB n = ⟨#[u8 (192 + n / 64), u8 (128 + n % 64)]⟩) := by unfold encB; rw [encL_2 n hb c1 c2]; rfl
     clear hb h2
     have e1 : bits .or .u8 192 (n / 64) = 192 + n / 64 := u8_or192 _ (by omega) (by omega)
     go_enter Tryz.func152, Tryz.ntmps152
     go_wp2_with (first | (go_at_call 154; refine (scalar_at _ _ _ HS).mono ?_; rintro e w1 ⟨rfl, rfl⟩) | (go_at_call 155; refine (further_any _ _ (by omega) (by omega)).mono ?_; rintro e w1 ⟨rfl, rfl⟩))
     go_ret
     refine ⟨by rw [HR.out]; rfl, ?_⟩
     repeat (first | exact Below.refl _ _ | refine bl_alloc ?_ _ | refine Below.drew ?_ | refine bl_drewN ?_ _ | refine bl_set ?_ (by first | (simp; done) | (simp; omega)) _ | refine bl_step ?_ (by assumption))
   by_cases c3 : n < 65536
   · have HR : Hid (encB n = ⟨#[u8 (224 + n / 4096), u8 (128 + n / 64 % 64), u8 (128 + n % 64)]⟩) := by unfold encB; rw [encL_3 n hb c1 c2 c3]; rfl
     clear hb h2
     have e1 : bits .or .u8 224 (n / 4096) = 224 + n / 4096 := u8_or224 _ (by omega) (by omega)
     go_enter Tryz.func152, Tryz.ntmps152
     go_wp2_with (first | (go_at_call 154; refine (scalar_at _ _ _ HS).mono ?_; rintro e w1 ⟨rfl, rfl⟩) | (go_at_call 155; refine (further_any _ _ (by omega) (by omega)).mono ?_; rintro e w1 ⟨rfl, rfl⟩))
     go_ret
     refine ⟨by rw [HR.out]; rfl, ?_⟩
     repeat (first | exact Below.refl _ _ | refine bl_alloc ?_ _ | refine Below.drew ?_ | refine bl_drewN ?_ _ | refine bl_set ?_ (by first | (simp; done) | (simp; omega)) _ | refine bl_step ?_ (by assumption))
   · have HR : Hid (encB n = ⟨#[u8 (240 + n / 262144), u8 (128 + n / 4096 % 64), u8 (128 + n / 64 % 64), u8 (128 + n % 64)]⟩) := by unfold encB; rw [encL_4 n hb c1 c2 c3]; rfl
     clear hb h2
     have e1 : bits .or .u8 240 (n / 262144) = 240 + n / 262144 := u8_or240 _ (by omega) (by omega)
     go_enter Tryz.func152, Tryz.ntmps152
     go_wp2_with (first | (go_at_call 154; refine (scalar_at _ _ _ HS).mono ?_; rintro e w1 ⟨rfl, rfl⟩) | (go_at_call 155; refine (further_any _ _ (by omega) (by omega)).mono ?_; rintro e w1 ⟨rfl, rfl⟩))
     go_ret
     refine ⟨by rw [HR.out]; rfl, ?_⟩
     repeat (first | exact Below.refl _ _ | refine bl_alloc ?_ _ | refine Below.drew ?_ | refine bl_drewN ?_ _ | refine bl_set ?_ (by first | (simp; done) | (simp; omega)) _ | refine bl_step ?_ (by assumption))
set_option maxHeartbeats 1000000 in
theorem rencode_any (n : Int) (w : World) : Calls Tryz.prog 87 #[.int .i32 n] w fun e w' => e = .returned (.string (encB n)) ∧ Below w.heap.size w w' := by
 cases hb : scalarB n
 · have HS : Hid (scalarB n = false) := hb
   have HR : Hid (encB n = ⟨#[]⟩) := by unfold encB; rw [encL_no n hb]; rfl
   clear hb
   go_enter Tryz.func87, Tryz.ntmps87
   go_wp2_with (first | (go_at_call 86; refine (rscalar_at _ _ _ HS).mono ?_; rintro e w1 ⟨rfl, rfl⟩) | (go_at_call 155; refine (further_any _ _ (by omega) (by omega)).mono ?_; rintro e w1 ⟨rfl, rfl⟩))
   go_ret
   refine ⟨by rw [HR.out]; rfl, ?_⟩
   repeat (first | exact Below.refl _ _ | refine bl_alloc ?_ _ | refine Below.drew ?_ | refine bl_drewN ?_ _ | refine bl_set ?_ (by first | (simp; done) | (simp; omega)) _ | refine bl_step ?_ (by assumption))
 · have HS : Hid (scalarB n = true) := hb
   obtain ⟨h0, h1, h2⟩ := scalarB_true hb
   by_cases c1 : n < 128
   · have HR : Hid (encB n = ⟨#[u8 n]⟩) := by unfold encB; rw [encL_1 n hb c1]; rfl
     clear hb h2
     go_enter Tryz.func87, Tryz.ntmps87
     go_wp2_with (first | (go_at_call 86; refine (rscalar_at _ _ _ HS).mono ?_; rintro e w1 ⟨rfl, rfl⟩) | (go_at_call 155; refine (further_any _ _ (by omega) (by omega)).mono ?_; rintro e w1 ⟨rfl, rfl⟩))
     go_ret
     refine ⟨by rw [HR.out]; rfl, ?_⟩
     repeat (first | exact Below.refl _ _ | refine bl_alloc ?_ _ | refine Below.drew ?_ | refine bl_drewN ?_ _ | refine bl_set ?_ (by first | (simp; done) | (simp; omega)) _ | refine bl_step ?_ (by assumption))
   by_cases c2 : n < 2048
   · have HR : Hid (encB n = ⟨#[u8 (192 + n / 64), u8 (128 + n % 64)]⟩) := by unfold encB; rw [encL_2 n hb c1 c2]; rfl
     clear hb h2
     go_enter Tryz.func87, Tryz.ntmps87
     go_wp2_with (first | (go_at_call 86; refine (rscalar_at _ _ _ HS).mono ?_; rintro e w1 ⟨rfl, rfl⟩) | (go_at_call 155; refine (further_any _ _ (by omega) (by omega)).mono ?_; rintro e w1 ⟨rfl, rfl⟩))
     go_ret
     refine ⟨by rw [HR.out]; rfl, ?_⟩
     repeat (first | exact Below.refl _ _ | refine bl_alloc ?_ _ | refine Below.drew ?_ | refine bl_drewN ?_ _ | refine bl_set ?_ (by first | (simp; done) | (simp; omega)) _ | refine bl_step ?_ (by assumption))
   by_cases c3 : n < 65536
   · have HR : Hid (encB n = ⟨#[u8 (224 + n / 4096), u8 (128 + n / 64 % 64), u8 (128 + n % 64)]⟩) := by unfold encB; rw [encL_3 n hb c1 c2 c3]; rfl
     clear hb h2
     go_enter Tryz.func87, Tryz.ntmps87
     go_wp2_with (first | (go_at_call 86; refine (rscalar_at _ _ _ HS).mono ?_; rintro e w1 ⟨rfl, rfl⟩) | (go_at_call 155; refine (further_any _ _ (by omega) (by omega)).mono ?_; rintro e w1 ⟨rfl, rfl⟩))
     go_ret
     refine ⟨by rw [HR.out]; rfl, ?_⟩
     repeat (first | exact Below.refl _ _ | refine bl_alloc ?_ _ | refine Below.drew ?_ | refine bl_drewN ?_ _ | refine bl_set ?_ (by first | (simp; done) | (simp; omega)) _ | refine bl_step ?_ (by assumption))
   · have HR : Hid (encB n = ⟨#[u8 (240 + n / 262144), u8 (128 + n / 4096 % 64), u8 (128 + n / 64 % 64), u8 (128 + n % 64)]⟩) := by unfold encB; rw [encL_4 n hb c1 c2 c3]; rfl
     clear hb h2
     go_enter Tryz.func87, Tryz.ntmps87
     go_wp2_with (first | (go_at_call 86; refine (rscalar_at _ _ _ HS).mono ?_; rintro e w1 ⟨rfl, rfl⟩) | (go_at_call 155; refine (further_any _ _ (by omega) (by omega)).mono ?_; rintro e w1 ⟨rfl, rfl⟩))
     go_ret
     refine ⟨by rw [HR.out]; rfl, ?_⟩
     repeat (first | exact Below.refl _ _ | refine bl_alloc ?_ _ | refine Below.drew ?_ | refine bl_drewN ?_ _ | refine bl_set ?_ (by first | (simp; done) | (simp; omega)) _ | refine bl_step ?_ (by assumption))
end Go.Proofs.YtldjakeigjngoaaGreat
/- Contracts: utf.Bad, Valid, Count. -/
namespace Go.Proofs.YtldjakeigjngoaaGreat
open Go.RowKit Bf
end Go.Proofs.YtldjakeigjngoaaGreat