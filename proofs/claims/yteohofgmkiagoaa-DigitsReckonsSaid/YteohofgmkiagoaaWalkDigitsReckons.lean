/- The walk of blindfoldlaw07.DigitsReckons. -/
import Derived.Test.YteohofgmkiagoaaWalkDigitsBack
import Derived.Test.YteohofgmkiagoaaPlainFl
set_option linter.unusedVariables false
set_option linter.unusedSimpArgs false
namespace Go.Proofs.Yteohofgmkiagoaa
open Go.RowKit Bf

def fV (r : Int × Bool) : Value := .tuple #[.int .i64 r.1, .bool r.2]
theorem floor_any (n u : Int) (w : World) (hn : -9223372036854775808 ≤ n ∧ n ≤ 9223372036854775807) (hu : -9223372036854775808 ≤ u ∧ u ≤ 9223372036854775807) :
    Calls Try.prog 31 #[.int .i64 n, .int .i64 u] w fun e w' => e = .returned (fV (floorS n u)) ∧ w = w' := by
  obtain ⟨hn1, hn2⟩ := hn
  obtain ⟨hu1, hu2⟩ := hu
  by_cases h1 : u < 1
  · have HR := Lib.hid (floorS_no n u h1)
    go_enter Try.func31, Try.ntmps31
    go_wp2
    all_goals (go_ret2; exact ⟨by rw [HR.out]; first | rfl | (simp [fV]; try omega), rfl⟩)
  · have hu : 1 ≤ u := by omega
    obtain ⟨b1, b2, b3, b4⟩ := tmod_emod n u hu
    obtain ⟨b5, b6⟩ := emod_bd n u hu
    have H3 := Lib.hid b3
    have H4 := Lib.hid b4
    clear b3 b4
    by_cases ht : n.tmod u < 0
    · have e := H3.out ht
      by_cases ho : n - n % u < -9223372036854775808
      · have HR := Lib.hid (floorS_out n u hu ho)
        have hz : n < -9223372036854775808 + (n.tmod u + u) := by omega
        clear e ho h1
        go_enter Try.func31, Try.ntmps31
        go_wp2
        all_goals (go_ret2; exact ⟨by rw [HR.out]; first | rfl | (simp [fV]; try omega), rfl⟩)
      · have hr := floorS_in n u hu ho
        rw [← e] at hr
        have HR := Lib.hid hr
        have hz : -9223372036854775808 + (n.tmod u + u) ≤ n := by omega
        clear e ho h1 hr
        go_enter Try.func31, Try.ntmps31
        go_wp2
        all_goals (go_ret2; exact ⟨by rw [HR.out]; first | rfl | (simp [fV]; try omega), rfl⟩)
    · have e := H4.out (by omega)
      by_cases ho : n - n % u < -9223372036854775808
      · have HR := Lib.hid (floorS_out n u hu ho)
        have hz : n < -9223372036854775808 + n.tmod u := by omega
        clear e ho h1
        go_enter Try.func31, Try.ntmps31
        go_wp2
        all_goals (go_ret2; exact ⟨by rw [HR.out]; first | rfl | (simp [fV]; try omega), rfl⟩)
      · have hr := floorS_in n u hu ho
        rw [← e] at hr
        have HR := Lib.hid hr
        have hz : -9223372036854775808 + n.tmod u ≤ n := by omega
        clear e ho h1 hr
        go_enter Try.func31, Try.ntmps31
        go_wp2
        all_goals (go_ret2; exact ⟨by rw [HR.out]; first | rfl | (simp [fV]; try omega), rfl⟩)
theorem rfloor_any (n u : Int) (w : World) (hn : -9223372036854775808 ≤ n ∧ n ≤ 9223372036854775807) (hu : -9223372036854775808 ≤ u ∧ u ≤ 9223372036854775807) :
    Calls Try.prog 32 #[.int .i64 n, .int .i64 u] w fun e w' => e = .returned (fV (floorS n u)) ∧ w = w' := by
  by_cases h1 : u < 1
  · have HR := Lib.hid (floorS_no n u h1)
    go_enter Try.func32, Try.ntmps32
    go_wp2
    all_goals (go_ret2; exact ⟨by rw [HR.out]; first | rfl | (simp [fV]; try omega), rfl⟩)
  · have hu' : 1 ≤ u := by omega
    obtain ⟨b1, b2, b3, b4⟩ := tmod_emod n u hu'
    obtain ⟨b5, b6⟩ := emod_bd n u hu'
    have eq := tdiv_facts n u hu'
    obtain ⟨q1, q2⟩ := tdiv_bd n u hu' hn
    have hT := fun q => mul_lt_least q u hu'
    obtain ⟨t1, t2⟩ := tdiv_bd (-9223372036854775808) u hu' ⟨by omega, by omega⟩
    rw [Int.neg_tdiv] at t1 t2
    simp only [Int.neg_tdiv] at hT
    obtain ⟨hn1, hn2⟩ := hn
    obtain ⟨hu1, hu2⟩ := hu
    by_cases ht : n.tmod u < 0
    · have e := b3 ht
      have e2 : (n.tdiv u - 1) * u = n - n % u := by rw [Int.sub_mul, eq]; omega
      have x1 : n < n.tdiv u * u := by omega
      have x2 : n.tdiv u * u ≤ 9223372036854775807 := by
        by_cases hn0 : 0 ≤ n
        · have : n.tmod u = n % u := Int.tmod_eq_emod_of_nonneg hn0
          omega
        · have h3 : n.tdiv u ≤ 0 := by
            have h1 : (-n).tdiv u = (-n) / u := Int.tdiv_eq_ediv_of_nonneg (by omega)
            rw [Int.neg_tdiv] at h1
            have := Int.ediv_nonneg (show 0 ≤ -n by omega) (show 0 ≤ u by omega)
            omega
          have := Int.mul_nonneg_of_nonpos_of_nonpos (show n.tdiv u ≤ 0 by omega) (show -u ≤ 0 by omega)
          rw [Int.mul_neg] at this; omega
      have x3 : -9223372036854775808 ≤ n.tdiv u * u := by omega
      have x4 : -9223372036854775808 ≤ n.tdiv u - 1 := by
        apply Classical.byContradiction; intro hh
        have h5 : n.tdiv u = -9223372036854775808 := by omega
        have : n.tdiv u * u ≤ n.tdiv u * 1 := by
          rw [h5]; omega
        omega
      by_cases ho : n - n % u < -9223372036854775808
      · have HR := Lib.hid (floorS_out n u hu' ho)
        have hz : n.tdiv u - 1 < -Int.tdiv 9223372036854775808 u := (hT (n.tdiv u - 1)).2 (by omega)
        clear e e2 eq b3 b4 hT ho h1 ht b1 b2 b5 b6
        go_enter Try.func32, Try.ntmps32
        go_wp2
        all_goals (go_ret2; exact ⟨by rw [HR.out]; first | rfl | (simp [fV]; try omega), rfl⟩)
      · have hr := floorS_in n u hu' ho
        rw [← e2] at hr
        have HR := Lib.hid hr
        have hz : -Int.tdiv 9223372036854775808 u ≤ n.tdiv u - 1 := Int.not_lt.1 fun h => by have := (hT (n.tdiv u - 1)).1 h; omega
        have x5 : -9223372036854775808 ≤ (n.tdiv u - 1) * u := by omega
        have x6 : (n.tdiv u - 1) * u ≤ 9223372036854775807 := by omega
        clear e e2 eq b3 b4 hT ho h1 ht b1 b2 b5 b6 hr
        go_enter Try.func32, Try.ntmps32
        go_wp2
        all_goals (go_ret2; exact ⟨by rw [HR.out]; first | rfl | (simp [fV]; try omega), rfl⟩)
    · have e := b4 (by omega)
      have x1 : n.tdiv u * u ≤ n := by omega
      have x3 : -9223372036854775808 ≤ n.tdiv u * u := by
        by_cases hn0 : 0 ≤ n
        · have := Int.ediv_nonneg hn0 (show 0 ≤ u by omega)
          rw [← Int.tdiv_eq_ediv_of_nonneg hn0] at this
          have := Int.mul_nonneg this (show 0 ≤ u by omega)
          omega
        · have h1 : (-n).tmod u = (-n) % u := Int.tmod_eq_emod_of_nonneg (by omega)
          rw [Int.neg_tmod] at h1
          have := (emod_bd (-n) u hu').1
          omega
      have ho : ¬ n - n % u < -9223372036854775808 := by omega
      have hr := floorS_in n u hu' ho
      rw [← e, ← eq] at hr
      have HR := Lib.hid hr
      have hz : -Int.tdiv 9223372036854775808 u ≤ n.tdiv u := Int.not_lt.1 fun h => by have := (hT (n.tdiv u)).1 h; omega
      clear e eq b3 b4 hT ho h1 ht b1 b2 b5 b6 hr
      go_enter Try.func32, Try.ntmps32
      go_wp2
      all_goals (go_ret2; exact ⟨by rw [HR.out]; first | rfl | (simp [fV]; try omega), rfl⟩)
theorem add_no (n u : Int) (w : World) (hn : -9223372036854775808 ≤ n ∧ n ≤ 9223372036854775807) (hu : -9223372036854775808 ≤ u ∧ u ≤ 9223372036854775807) (h : n + u < -9223372036854775808 ∨ 9223372036854775807 < n + u) :
    Calls Try.prog 33 #[.int .i64 n, .int .i64 u] w fun e w' => e = .returned (.tuple #[.int .i64 0, .bool false]) ∧ w = w' := by
  obtain ⟨hn1, hn2⟩ := hn
  obtain ⟨hu1, hu2⟩ := hu
  by_cases h0 : 0 < u
  · have h1 : 9223372036854775807 - u < n := by omega
    clear h
    go_enter Try.func33, Try.ntmps33
    go_wp2
    all_goals (go_ret2; exact ⟨rfl, rfl⟩)
  · have h2 : u < 0 := by omega
    have h1 : n < -9223372036854775808 - u := by omega
    clear h
    go_enter Try.func33, Try.ntmps33
    go_wp2
    all_goals (go_ret2; exact ⟨rfl, rfl⟩)
theorem add_yes (n u : Int) (w : World) (hn : -9223372036854775808 ≤ n ∧ n ≤ 9223372036854775807) (hu : -9223372036854775808 ≤ u ∧ u ≤ 9223372036854775807) (h : -9223372036854775808 ≤ n + u ∧ n + u ≤ 9223372036854775807) :
    Calls Try.prog 33 #[.int .i64 n, .int .i64 u] w fun e w' => e = .returned (.tuple #[.int .i64 (n + u), .bool true]) ∧ w = w' := by
  obtain ⟨hn1, hn2⟩ := hn
  obtain ⟨hu1, hu2⟩ := hu
  obtain ⟨h1, h2⟩ := h
  by_cases h0 : 0 < u
  · have h3 : n ≤ 9223372036854775807 - u := by omega
    go_enter Try.func33, Try.ntmps33
    go_wp2
    all_goals (go_ret2; exact ⟨rfl, rfl⟩)
  · by_cases h4 : u < 0
    · have h3 : -9223372036854775808 - u ≤ n := by omega
      go_enter Try.func33, Try.ntmps33
      go_wp2
      all_goals (go_ret2; exact ⟨rfl, rfl⟩)
    · go_enter Try.func33, Try.ntmps33
      go_wp2
      all_goals (go_ret2; exact ⟨rfl, rfl⟩)
theorem rputb_any (n : Int) (w : World) (h : -9223372036854775808 ≤ n ∧ n ≤ 9223372036854775807) :
    Calls Try.prog 34 #[.int .i64 n] w fun e w' => e = .returned (.string (putB n)) ∧ Below w.heap.size w w' :=
  refput_any (n.natAbs + 20) n w (by omega) (by omega) h
theorem columnsb_any (n : Int) (w : World) (h : -9223372036854775808 ≤ n ∧ n ≤ 9223372036854775807) :
    Calls Try.prog 35 #[.int .i64 n] w fun e w' => e = .returned (.int .i64 (putB n).size) ∧ Below w.heap.size w w' := by
  rw [putB_size]; exact columns_any n w h
theorem floor_at (n u r : Int) (b : Bool) (w : World) (hn : -9223372036854775808 ≤ n ∧ n ≤ 9223372036854775807) (hu : -9223372036854775808 ≤ u ∧ u ≤ 9223372036854775807) (h : Hid (floorS n u = (r, b))) :
    Calls Try.prog 31 #[.int .i64 n, .int .i64 u] w fun e w' => e = .returned (.tuple #[.int .i64 r, .bool b]) ∧ w = w' := by
  have := floor_any n u w hn hu; rw [h.out] at this; exact this
theorem rfloor_at (n u r : Int) (b : Bool) (w : World) (hn : -9223372036854775808 ≤ n ∧ n ≤ 9223372036854775807) (hu : -9223372036854775808 ≤ u ∧ u ≤ 9223372036854775807) (h : Hid (floorS n u = (r, b))) :
    Calls Try.prog 32 #[.int .i64 n, .int .i64 u] w fun e w' => e = .returned (.tuple #[.int .i64 r, .bool b]) ∧ w = w' := by
  have := rfloor_any n u w hn hu; rw [h.out] at this; exact this
set_option maxHeartbeats 2000000 in
theorem digitsReckons_walk (n : Int) (hn : -9223372036854775808 ≤ n ∧ n ≤ 9223372036854775807) (u : Int) (hu : -9223372036854775808 ≤ u ∧ u ≤ 9223372036854775807) (w : World) :
    Calls Try.prog 8 #[.int .i64 n, .int .i64 u] w fun e w' => e = .returned (.bool true) ∧ Below w.heap.size w w' := by
  obtain ⟨r, b, hF⟩ : ∃ r b, floorS n u = (r, b) := ⟨_, _, rfl⟩
  have HF := Lib.hid hF
  clear hF
  obtain ⟨n1, n2⟩ := id hn
  obtain ⟨u1, u2⟩ := id hu
  have HB := putL_len n hn
  rw [← putB_size] at HB
  by_cases h0 : 0 < u
  · by_cases h1 : 9223372036854775807 - u < n
    · have hadd : n + u < -9223372036854775808 ∨ 9223372036854775807 < n + u := by omega
      have hq : decide (9223372036854775807 - u < n) = true := by simp; omega
      go_enter Try.func8, Try.ntmps8
      go_wp2_with fail
      refine (floor_at _ _ _ _ _ hn hu HF).mono ?_
      rintro e w1 ⟨rfl, rfl⟩
      go_wp2_with fail
      refine (rfloor_at _ _ _ _ _ hn hu HF).mono ?_
      rintro e w1 ⟨rfl, rfl⟩
      go_wp2_with fail
      refine (add_no _ _ _ hn hu hadd).mono ?_
      rintro e w1 ⟨rfl, rfl⟩
      go_wp2_with (first | (go_at_call 23; refine (putb_any _ _ hn).mono ?_; rintro e w1 ⟨rfl, hb⟩; obtain ⟨kc, kf, kl, km, kn⟩ := bfacts hb) | (go_at_call 34; refine (rputb_any _ _ hn).mono ?_; rintro e w1 ⟨rfl, hb⟩; obtain ⟨kc, kf, kl, km, kn⟩ := bfacts hb) | (go_at_call 35; refine (columnsb_any _ _ hn).mono ?_; rintro e w1 ⟨rfl, hb⟩; obtain ⟨kc, kf, kl, km, kn⟩ := bfacts hb) | (go_at_call 19; refine (lives07_any _).mono ?_; rintro e w5 ⟨rfl, hb5⟩))
      all_goals (go_ret; refine ⟨by first | rfl | simp, ?_⟩)
      repeat (first | exact Below.refl _ _ | refine bl_alloc ?_ _ | refine Below.drew ?_ | refine bl_drewN ?_ _ | refine bl_set ?_ (by first | (simp; done) | (simp; omega)) _ | refine bl_step ?_ (by assumption))
    · have hq : decide (9223372036854775807 - u < n) = false := by simp; omega
      have hadd : -9223372036854775808 ≤ n + u ∧ n + u ≤ 9223372036854775807 := by omega
      go_enter Try.func8, Try.ntmps8
      go_wp2_with fail
      refine (floor_at _ _ _ _ _ hn hu HF).mono ?_
      rintro e w1 ⟨rfl, rfl⟩
      go_wp2_with fail
      refine (rfloor_at _ _ _ _ _ hn hu HF).mono ?_
      rintro e w1 ⟨rfl, rfl⟩
      go_wp2_with fail
      refine (add_yes _ _ _ hn hu hadd).mono ?_
      rintro e w1 ⟨rfl, rfl⟩
      go_wp2_with (first | (go_at_call 23; refine (putb_any _ _ hn).mono ?_; rintro e w1 ⟨rfl, hb⟩; obtain ⟨kc, kf, kl, km, kn⟩ := bfacts hb) | (go_at_call 34; refine (rputb_any _ _ hn).mono ?_; rintro e w1 ⟨rfl, hb⟩; obtain ⟨kc, kf, kl, km, kn⟩ := bfacts hb) | (go_at_call 35; refine (columnsb_any _ _ hn).mono ?_; rintro e w1 ⟨rfl, hb⟩; obtain ⟨kc, kf, kl, km, kn⟩ := bfacts hb) | (go_at_call 19; refine (lives07_any _).mono ?_; rintro e w5 ⟨rfl, hb5⟩))
      all_goals (go_ret; refine ⟨by first | rfl | simp, ?_⟩)
      repeat (first | exact Below.refl _ _ | refine bl_alloc ?_ _ | refine Below.drew ?_ | refine bl_drewN ?_ _ | refine bl_set ?_ (by first | (simp; done) | (simp; omega)) _ | refine bl_step ?_ (by assumption))
  · by_cases h2 : u < 0
    · by_cases h1 : n < -9223372036854775808 - u
      · have hadd : n + u < -9223372036854775808 ∨ 9223372036854775807 < n + u := by omega
        have hq : decide (n < -9223372036854775808 - u) = true := by simp; omega
        go_enter Try.func8, Try.ntmps8
        go_wp2_with fail
        refine (floor_at _ _ _ _ _ hn hu HF).mono ?_
        rintro e w1 ⟨rfl, rfl⟩
        go_wp2_with fail
        refine (rfloor_at _ _ _ _ _ hn hu HF).mono ?_
        rintro e w1 ⟨rfl, rfl⟩
        go_wp2_with fail
        refine (add_no _ _ _ hn hu hadd).mono ?_
        rintro e w1 ⟨rfl, rfl⟩
        go_wp2_with (first | (go_at_call 23; refine (putb_any _ _ hn).mono ?_; rintro e w1 ⟨rfl, hb⟩; obtain ⟨kc, kf, kl, km, kn⟩ := bfacts hb) | (go_at_call 34; refine (rputb_any _ _ hn).mono ?_; rintro e w1 ⟨rfl, hb⟩; obtain ⟨kc, kf, kl, km, kn⟩ := bfacts hb) | (go_at_call 35; refine (columnsb_any _ _ hn).mono ?_; rintro e w1 ⟨rfl, hb⟩; obtain ⟨kc, kf, kl, km, kn⟩ := bfacts hb) | (go_at_call 19; refine (lives07_any _).mono ?_; rintro e w5 ⟨rfl, hb5⟩))
        all_goals (go_ret; refine ⟨by first | rfl | simp, ?_⟩)
        repeat (first | exact Below.refl _ _ | refine bl_alloc ?_ _ | refine Below.drew ?_ | refine bl_drewN ?_ _ | refine bl_set ?_ (by first | (simp; done) | (simp; omega)) _ | refine bl_step ?_ (by assumption))
      · have hq : decide (n < -9223372036854775808 - u) = false := by simp; omega
        have hadd : -9223372036854775808 ≤ n + u ∧ n + u ≤ 9223372036854775807 := by omega
        go_enter Try.func8, Try.ntmps8
        go_wp2_with fail
        refine (floor_at _ _ _ _ _ hn hu HF).mono ?_
        rintro e w1 ⟨rfl, rfl⟩
        go_wp2_with fail
        refine (rfloor_at _ _ _ _ _ hn hu HF).mono ?_
        rintro e w1 ⟨rfl, rfl⟩
        go_wp2_with fail
        refine (add_yes _ _ _ hn hu hadd).mono ?_
        rintro e w1 ⟨rfl, rfl⟩
        go_wp2_with (first | (go_at_call 23; refine (putb_any _ _ hn).mono ?_; rintro e w1 ⟨rfl, hb⟩; obtain ⟨kc, kf, kl, km, kn⟩ := bfacts hb) | (go_at_call 34; refine (rputb_any _ _ hn).mono ?_; rintro e w1 ⟨rfl, hb⟩; obtain ⟨kc, kf, kl, km, kn⟩ := bfacts hb) | (go_at_call 35; refine (columnsb_any _ _ hn).mono ?_; rintro e w1 ⟨rfl, hb⟩; obtain ⟨kc, kf, kl, km, kn⟩ := bfacts hb) | (go_at_call 19; refine (lives07_any _).mono ?_; rintro e w5 ⟨rfl, hb5⟩))
        all_goals (go_ret; refine ⟨by first | rfl | simp, ?_⟩)
        repeat (first | exact Below.refl _ _ | refine bl_alloc ?_ _ | refine Below.drew ?_ | refine bl_drewN ?_ _ | refine bl_set ?_ (by first | (simp; done) | (simp; omega)) _ | refine bl_step ?_ (by assumption))
    · have hadd : -9223372036854775808 ≤ n + u ∧ n + u ≤ 9223372036854775807 := by omega
      go_enter Try.func8, Try.ntmps8
      go_wp2_with fail
      refine (floor_at _ _ _ _ _ hn hu HF).mono ?_
      rintro e w1 ⟨rfl, rfl⟩
      go_wp2_with fail
      refine (rfloor_at _ _ _ _ _ hn hu HF).mono ?_
      rintro e w1 ⟨rfl, rfl⟩
      go_wp2_with fail
      refine (add_yes _ _ _ hn hu hadd).mono ?_
      rintro e w1 ⟨rfl, rfl⟩
      go_wp2_with (first | (go_at_call 23; refine (putb_any _ _ hn).mono ?_; rintro e w1 ⟨rfl, hb⟩; obtain ⟨kc, kf, kl, km, kn⟩ := bfacts hb) | (go_at_call 34; refine (rputb_any _ _ hn).mono ?_; rintro e w1 ⟨rfl, hb⟩; obtain ⟨kc, kf, kl, km, kn⟩ := bfacts hb) | (go_at_call 35; refine (columnsb_any _ _ hn).mono ?_; rintro e w1 ⟨rfl, hb⟩; obtain ⟨kc, kf, kl, km, kn⟩ := bfacts hb) | (go_at_call 19; refine (lives07_any _).mono ?_; rintro e w5 ⟨rfl, hb5⟩))
      all_goals (go_ret; refine ⟨by first | rfl | simp, ?_⟩)
      repeat (first | exact Below.refl _ _ | refine bl_alloc ?_ _ | refine Below.drew ?_ | refine bl_drewN ?_ _ | refine bl_set ?_ (by first | (simp; done) | (simp; omega)) _ | refine bl_step ?_ (by assumption))
end Go.Proofs.Yteohofgmkiagoaa
