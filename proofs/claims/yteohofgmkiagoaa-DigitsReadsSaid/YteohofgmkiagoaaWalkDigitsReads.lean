/- The walk of blindfoldlaw07.DigitsReads. -/
import Derived.Test.YteohofgmkiagoaaDigits6
set_option linter.unusedVariables false
set_option linter.unusedSimpArgs false
namespace Go.Proofs.Yteohofgmkiagoaa
open Go.RowKit Bf

def ErrNone (r : Int × Int × Int × Int) : Prop := (r.2.2.1 ≠ 0 → r.1 = 0) ∧ (r.2.2.1 = 0 → r.2.2.2 = 0)
theorem errNone_ite (c : Prop) [Decidable c] (x y : Int × Int × Int × Int) (hx : ErrNone x) (hy : ErrNone y) : ErrNone (if c then x else y) := by split <;> assumption
theorem five_ne (c : Prop) [Decidable c] : ¬ (if c then (5 : Int) else 19) = 0 := by split <;> decide
theorem takeS_err (l : List UInt8) (a : Int) : ErrNone (takeS l a) := by
  unfold takeS takeAt
  refine errNone_ite _ _ _ ⟨fun _ => rfl, fun h => absurd h (by decide)⟩ ?_
  refine errNone_ite _ _ _ ⟨fun _ => rfl, fun h => absurd h (five_ne _)⟩ ?_
  refine errNone_ite _ _ _ ⟨fun _ => rfl, fun h => absurd h (by simp)⟩ ?_
  refine errNone_ite _ _ _ ⟨fun h => absurd rfl h, fun _ => rfl⟩ ⟨fun _ => rfl, fun h => absurd h (by simp)⟩

set_option maxHeartbeats 2000000 in
theorem digitsReads_walk (s : ByteArray) (hs0 : s.size ≤ 140737488351232) (a : Int) (ha : -9223372036854775808 ≤ a ∧ a ≤ 9223372036854775807) (w : World) :
    Calls Try.prog 4 #[.string s, .int .i64 a] w fun e w' => e = .returned (.bool true) ∧ Below w.heap.size w w' := by
  have hs : s.size ≤ maxLen := by unfold maxLen; omega
  by_cases h3 : 3000 < s.size
  · go_enter Try.func4, Try.ntmps4
    go_wp2_with (go_at_call 19; refine (lives07_any _).mono ?_; rintro e w1 ⟨rfl, hb⟩; obtain ⟨kc, kf, kl, km, kn⟩ := bfacts hb)
    go_ret
    refine ⟨by rfl, ?_⟩
    repeat (first | exact Below.refl _ _ | refine bl_alloc ?_ _ | refine Below.drew ?_ | refine bl_drewN ?_ _ | refine bl_set ?_ (by first | (simp; done) | (simp; omega)) _ | refine bl_step ?_ (by assumption))
  · obtain ⟨n, en, f, at_, ht⟩ : ∃ n en f at_, takeS s.data.toList a = (n, en, f, at_) := ⟨_, _, _, _, rfl⟩
    obtain ⟨n0, en0, f0, at0, ht0⟩ : ∃ n en f at_, takeS s.data.toList 0 = (n, en, f, at_) := ⟨_, _, _, _, rfl⟩
    have Ht := Lib.hid ht
    by_cases hf : f0 = 0
    · subst hf
      have hz0 : at0 = 0 := by have := takeS_err s.data.toList 0; rw [ht0] at this; exact this.2 rfl
      subst hz0
      by_cases hl : en0 < s.size
      · have hp : parseS s.data.toList = (0, 19, en0) := by unfold parseS; simp [ht0, hl]
        have Ht0 := Lib.hid ht0
        have Hp := Lib.hid hp
        clear ht ht0 hp
        go_enter Try.func4, Try.ntmps4
        go_wp2_with fail
        refine (take_at _ _ _ _ _ _ _ hs ha Ht).mono ?_
        rintro e w1 ⟨rfl, hb1⟩; obtain ⟨c1, f1, l1, m1, n1⟩ := bfacts hb1
        go_wp2_with fail
        refine (rtake_at _ _ _ _ _ _ _ hs ha Ht).mono ?_
        rintro e w2 ⟨rfl, hb2⟩; obtain ⟨c2, f2, l2, m2, n2⟩ := bfacts hb2
        go_wp2_with fail
        refine (parse_at _ _ _ _ _ hs Hp).mono ?_
        rintro e w3 ⟨rfl, hb3⟩; obtain ⟨c3, f3, l3, m3, n3⟩ := bfacts hb3; have hb23 := bl_step (bl_alloc hb2 _) hb3; obtain ⟨c23, f23, l23, m23, n23⟩ := bfacts hb23
        go_wp2_with fail
        refine (rtake_at _ _ _ _ _ _ _ hs (by omega) Ht0).mono ?_
        rintro e w4 ⟨rfl, hb4⟩; obtain ⟨c4, f4, l4, m4, n4⟩ := bfacts hb4; have hb34 := bl_step (bl_alloc hb3 _) hb4; obtain ⟨c34, f34, l34, m34, n34⟩ := bfacts hb34; have hb24 := bl_step (bl_alloc hb23 _) hb4; obtain ⟨c24, f24, l24, m24, n24⟩ := bfacts hb24
        go_wp2_with (go_at_call 19; refine (lives07_any _).mono ?_; rintro e w5 ⟨rfl, hb5⟩)
        all_goals (go_ret; refine ⟨by first | rfl | simp, ?_⟩)
        repeat (first | exact Below.refl _ _ | refine bl_alloc ?_ _ | refine Below.drew ?_ | refine bl_drewN ?_ _ | refine bl_set ?_ (by first | (simp; done) | (simp; omega)) _ | refine bl_step ?_ (by assumption))
      · have hp : parseS s.data.toList = (n0, 0, 0) := by unfold parseS; simp [ht0, hl]
        have Ht0 := Lib.hid ht0
        have Hp := Lib.hid hp
        clear ht ht0 hp
        go_enter Try.func4, Try.ntmps4
        go_wp2_with fail
        refine (take_at _ _ _ _ _ _ _ hs ha Ht).mono ?_
        rintro e w1 ⟨rfl, hb1⟩; obtain ⟨c1, f1, l1, m1, n1⟩ := bfacts hb1
        go_wp2_with fail
        refine (rtake_at _ _ _ _ _ _ _ hs ha Ht).mono ?_
        rintro e w2 ⟨rfl, hb2⟩; obtain ⟨c2, f2, l2, m2, n2⟩ := bfacts hb2
        go_wp2_with fail
        refine (parse_at _ _ _ _ _ hs Hp).mono ?_
        rintro e w3 ⟨rfl, hb3⟩; obtain ⟨c3, f3, l3, m3, n3⟩ := bfacts hb3; have hb23 := bl_step (bl_alloc hb2 _) hb3; obtain ⟨c23, f23, l23, m23, n23⟩ := bfacts hb23
        go_wp2_with fail
        refine (rtake_at _ _ _ _ _ _ _ hs (by omega) Ht0).mono ?_
        rintro e w4 ⟨rfl, hb4⟩; obtain ⟨c4, f4, l4, m4, n4⟩ := bfacts hb4; have hb34 := bl_step (bl_alloc hb3 _) hb4; obtain ⟨c34, f34, l34, m34, n34⟩ := bfacts hb34; have hb24 := bl_step (bl_alloc hb23 _) hb4; obtain ⟨c24, f24, l24, m24, n24⟩ := bfacts hb24
        go_wp2_with (go_at_call 19; refine (lives07_any _).mono ?_; rintro e w5 ⟨rfl, hb5⟩)
        all_goals (go_ret; refine ⟨by first | rfl | simp, ?_⟩)
        repeat (first | exact Below.refl _ _ | refine bl_alloc ?_ _ | refine Below.drew ?_ | refine bl_drewN ?_ _ | refine bl_set ?_ (by first | (simp; done) | (simp; omega)) _ | refine bl_step ?_ (by assumption))
    · have hp : parseS s.data.toList = (0, f0, at0) := by unfold parseS; simp [ht0, hf]
      have hn : n0 = 0 := by have := takeS_err s.data.toList 0; rw [ht0] at this; exact this.1 hf
      subst hn
      have hq : (f0 == 0) = false := by simp [hf]
      have Ht0 := Lib.hid ht0
      have Hp := Lib.hid hp
      clear ht ht0 hp hf
      go_enter Try.func4, Try.ntmps4
      go_wp2_with fail
      refine (take_at _ _ _ _ _ _ _ hs ha Ht).mono ?_
      rintro e w1 ⟨rfl, hb1⟩; obtain ⟨c1, f1, l1, m1, n1⟩ := bfacts hb1
      go_wp2_with fail
      refine (rtake_at _ _ _ _ _ _ _ hs ha Ht).mono ?_
      rintro e w2 ⟨rfl, hb2⟩; obtain ⟨c2, f2, l2, m2, n2⟩ := bfacts hb2
      go_wp2_with fail
      refine (parse_at _ _ _ _ _ hs Hp).mono ?_
      rintro e w3 ⟨rfl, hb3⟩; obtain ⟨c3, f3, l3, m3, n3⟩ := bfacts hb3; have hb23 := bl_step (bl_alloc hb2 _) hb3; obtain ⟨c23, f23, l23, m23, n23⟩ := bfacts hb23
      go_wp2_with fail
      refine (rtake_at _ _ _ _ _ _ _ hs (by omega) Ht0).mono ?_
      rintro e w4 ⟨rfl, hb4⟩; obtain ⟨c4, f4, l4, m4, n4⟩ := bfacts hb4; have hb34 := bl_step (bl_alloc hb3 _) hb4; obtain ⟨c34, f34, l34, m34, n34⟩ := bfacts hb34; have hb24 := bl_step (bl_alloc hb23 _) hb4; obtain ⟨c24, f24, l24, m24, n24⟩ := bfacts hb24
      go_wp2_with (go_at_call 19; refine (lives07_any _).mono ?_; rintro e w5 ⟨rfl, hb5⟩)
      all_goals (go_ret; refine ⟨by first | rfl | simp, ?_⟩)
      repeat (first | exact Below.refl _ _ | refine bl_alloc ?_ _ | refine Below.drew ?_ | refine bl_drewN ?_ _ | refine bl_set ?_ (by first | (simp; done) | (simp; omega)) _ | refine bl_step ?_ (by assumption))
end Go.Proofs.Yteohofgmkiagoaa
