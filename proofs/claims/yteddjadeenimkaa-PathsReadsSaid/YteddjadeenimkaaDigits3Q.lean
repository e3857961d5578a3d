/- Contracts: the reference's Put. -/
import Derived.Test.YteddjadeenimkaaDigits2Q
import Derived.Test.YteddjadeenimkaaBPL
set_option linter.unusedVariables false
set_option linter.unusedSimpArgs false
namespace Go.Proofs.Yteddjadeenimkaa
open Go.RowKit Bf

set_option maxRecDepth 20000 in
theorem refput_any : ∀ (m : Nat) (n : Int) (w : World), n.natAbs ≤ m → (n < 0 → n.natAbs + 20 ≤ m) → -9223372036854775808 ≤ n ∧ n ≤ 9223372036854775807 →
    Calls Try.prog 87 #[.int .i64 n] w fun e w' => e = .returned (.string ⟨(putL n).toArray⟩) ∧ Below w.heap.size w w' := by
  intro m
  induction m with
  | zero =>
    intro n w hn _ _
    have h0 : 0 ≤ n := by omega
    have h1 : n < 10 := by omega
    clear hn
    have HR := Lib.hid (putL_lt n h0 h1)
    go_enter Try.func87, Try.ntmps87
    go_wp2
    go_ret
    refine ⟨by rw [HR.out]; rfl, ?_⟩
    repeat (first | exact Below.refl _ _ | refine bl_alloc ?_ _ | refine Below.drew ?_ | refine bl_drewN ?_ _ | refine bl_set ?_ (by first | (simp; done) | (simp; omega)) _ | refine bl_step ?_ (by assumption))
  | succ m ih =>
    intro n w hn hn' hr
    obtain ⟨r1, r2⟩ := hr
    have IH := Lib.hid ih; clear ih
    by_cases h0 : n < 0
    · by_cases h1 : -10 < n
      · have HR := Lib.hid (putL_neg1 n h0 h1)
        have l1 := putL_len (-n) (by omega)
        go_enter Try.func87, Try.ntmps87
        go_wp2_with (go_at_call 87; refine (IH.out _ _ (by omega) (by omega) (by omega)).mono ?_; rintro e w1 ⟨rfl, hb⟩; obtain ⟨kc, kf, kl, km, kn⟩ := bfacts hb)
        go_ret
        refine ⟨by rw [HR.out]; simp [mk_append], ?_⟩
        repeat (first | exact Below.refl _ _ | refine bl_alloc ?_ _ | refine Below.drew ?_ | refine bl_drewN ?_ _ | refine bl_set ?_ (by first | (simp; done) | (simp; omega)) _ | refine bl_step ?_ (by assumption))
      · have HR := Lib.hid (putL_neg2 n (by omega))
        have ht := tdiv_neg10 n (by omega)
        have ht2 : n.tmod 10 = n - 10 * n.tdiv 10 := by have := Int.tmod_add_mul_tdiv n 10; omega
        have l1 := putL_len (n.tdiv 10) (by omega)
        have l2 := putL_len (-(n.tmod 10)) (by omega)
        have b1 : n < n.tdiv 10 := by omega
        have b2 : n.tdiv 10 < 0 := by omega
        have b3 : 0 ≤ -(n.tmod 10) := by omega
        have b4 : -(n.tmod 10) < 10 := by omega
        clear ht ht2
        go_enter Try.func87, Try.ntmps87
        go_wp2_with (go_at_call 87; refine (IH.out _ _ (by omega) (by omega) (by omega)).mono ?_; rintro e w1 ⟨rfl, hb⟩; obtain ⟨kc, kf, kl, km, kn⟩ := bfacts hb)
        go_ret
        refine ⟨by rw [HR.out]; simp [mk_append], ?_⟩
        repeat (first | exact Below.refl _ _ | refine bl_alloc ?_ _ | refine Below.drew ?_ | refine bl_drewN ?_ _ | refine bl_set ?_ (by first | (simp; done) | (simp; omega)) _ | refine bl_step ?_ (by assumption))
    · by_cases h1 : n < 10
      · have HR := Lib.hid (putL_lt n (by omega) h1)
        go_enter Try.func87, Try.ntmps87
        go_wp2_with (go_at_call 87; refine (IH.out _ _ (by omega) (by omega) (by omega)).mono ?_; rintro e w1 ⟨rfl, hb⟩; obtain ⟨kc, kf, kl, km, kn⟩ := bfacts hb)
        go_ret
        refine ⟨by rw [HR.out]; rfl, ?_⟩
        repeat (first | exact Below.refl _ _ | refine bl_alloc ?_ _ | refine Below.drew ?_ | refine bl_drewN ?_ _ | refine bl_set ?_ (by first | (simp; done) | (simp; omega)) _ | refine bl_step ?_ (by assumption))
      · have HR := Lib.hid (putL_pos2 n (by omega))
        have e1 : n.tdiv 10 = n / 10 := Int.tdiv_eq_ediv_of_nonneg (by omega)
        have e2 : n.tmod 10 = n % 10 := Int.tmod_eq_emod_of_nonneg (by omega)
        rw [e1, e2] at HR
        have l1 := putL_len (n / 10) (by omega)
        have l2 := putL_len (n % 10) (by omega)
        clear e1 e2
        go_enter Try.func87, Try.ntmps87
        go_wp2_with (go_at_call 87; refine (IH.out _ _ (by omega) (by omega) (by omega)).mono ?_; rintro e w1 ⟨rfl, hb⟩; obtain ⟨kc, kf, kl, km, kn⟩ := bfacts hb)
        go_ret
        refine ⟨by rw [HR.out]; simp [mk_append], ?_⟩
        repeat (first | exact Below.refl _ _ | refine bl_alloc ?_ _ | refine Below.drew ?_ | refine bl_drewN ?_ _ | refine bl_set ?_ (by first | (simp; done) | (simp; omega)) _ | refine bl_step ?_ (by assumption))
end Go.Proofs.Yteddjadeenimkaa
