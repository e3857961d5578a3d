/- The walk of blindfoldlaw07.DigitsBack. -/
import Derived.Test.YteohofgmkiagoaaDigits5
import Derived.Test.YteohofgmkiagoaaPlain3
set_option linter.unusedVariables false
set_option linter.unusedSimpArgs false
namespace Go.Proofs.Yteohofgmkiagoaa
open Go.RowKit Bf

def putB (n : Int) : ByteArray := ⟨(putL n).toArray⟩
theorem putB_list (n : Int) : (putB n).data.toList = putL n := by unfold putB; simp
theorem putB_size (n : Int) : (putB n).size = (putL n).length := by rw [← putB_list, toList_length]
theorem putb_any (n : Int) (w : World) (h : -9223372036854775808 ≤ n ∧ n ≤ 9223372036854775807) :
    Calls Try.prog 23 #[.int .i64 n] w fun e w' => e = .returned (.string (putB n)) ∧ Below w.heap.size w w' := put_any n w h

set_option maxHeartbeats 2000000 in
theorem digitsBack_walk (n : Int) (hn : -9223372036854775808 ≤ n ∧ n ≤ 9223372036854775807) (s : ByteArray) (hs0 : s.size ≤ 140737488351232) (w : World) :
    Calls Try.prog 5 #[.int .i64 n, .string s] w fun e w' => e = .returned (.bool true) ∧ Below w.heap.size w w' := by
  have hs : s.size ≤ maxLen := by unfold maxLen; omega
  have hl := putL_len n hn
  rw [← putB_size] at hl
  have hs1 : (putB n).size ≤ maxLen := by unfold maxLen; omega
  have H1 : Hid (parseS (putB n).data.toList = (n, 0, 0)) := by rw [putB_list]; exact parseS_putL n hn
  have hs2 : (putB n ++ ⟨#[120]⟩ ++ s).size ≤ maxLen := by simp only [ByteArray.size_append]; unfold maxLen; have : (ByteArray.mk #[120]).size = 1 := rfl; omega
  have H2 : Hid (takeS (putB n ++ ⟨#[120]⟩ ++ s).data.toList 0 = (n, ((putB n).size : Int), 0, 0)) := by
    have : (putB n ++ ⟨#[120]⟩ ++ s).data.toList = putL n ++ (120 :: s.data.toList) := by simp [putB_list]
    rw [this, putB_size]
    exact takeS_putL n _ hn (by intro c r h; obtain ⟨rfl, _⟩ := List.cons.inj h; decide)
  obtain ⟨x, f, a, hp⟩ : ∃ x f a, parseS s.data.toList = (x, f, a) := ⟨_, _, _, rfl⟩
  by_cases hok : f = 0 ∧ a = 0
  · obtain ⟨rfl, rfl⟩ := hok
    have hx := putL_parseS s.data.toList x hp
    have hxr : -9223372036854775808 ≤ x ∧ x ≤ 9223372036854775807 := parseS_bd _ _ _ _ hp
    have ht : ((putB x).toList == s.toList) = true := by rw [ByteArray.toList_eq, ByteArray.toList_eq, putB_list, hx]; simp
    have H3 := Lib.hid hp
    clear hp hx
    go_enter Try.func5, Try.ntmps5
    go_wp2_with fail
    refine (putb_any _ _ hn).mono ?_
    rintro e w1 ⟨rfl, hb1⟩; obtain ⟨c1, f1, l1, m1, n1⟩ := bfacts hb1
    go_wp2_with fail
    refine (parse_at _ _ _ _ _ hs1 H1).mono ?_
    rintro e w2 ⟨rfl, hb2⟩; obtain ⟨c2, f2, l2, m2, n2⟩ := bfacts hb2
    go_wp2_with fail
    refine (take_at _ _ _ _ _ _ _ hs2 (by omega) H2).mono ?_
    rintro e w3 ⟨rfl, hb3⟩; obtain ⟨c3, f3, l3, m3, n3⟩ := bfacts hb3; have hb23 := bl_step (bl_alloc hb2 _) hb3; obtain ⟨c23, f23, l23, m23, n23⟩ := bfacts hb23
    go_wp2_with fail
    refine (parse_at _ _ _ _ _ hs H3).mono ?_
    rintro e w4 ⟨rfl, hb4⟩; obtain ⟨c4, f4, l4, m4, n4⟩ := bfacts hb4; have hb34 := bl_step (bl_alloc hb3 _) hb4; obtain ⟨c34, f34, l34, m34, n34⟩ := bfacts hb34; have hb24 := bl_step (bl_alloc hb23 _) hb4; obtain ⟨c24, f24, l24, m24, n24⟩ := bfacts hb24
    go_wp2_with (first | (go_at_call 19; refine (lives07_any _).mono ?_; rintro e w5 ⟨rfl, hb5⟩) | (go_at_call 23; refine (putb_any _ _ hxr).mono ?_; rintro e w6 ⟨rfl, hb6⟩))
    all_goals (go_ret; refine ⟨by first | rfl | simp, ?_⟩)
    repeat (first | exact Below.refl _ _ | refine bl_alloc ?_ _ | refine Below.drew ?_ | refine bl_drewN ?_ _ | refine bl_set ?_ (by first | (simp; done) | (simp; omega)) _ | refine bl_step ?_ (by assumption))
  · have H3 := Lib.hid hp
    have ht : (f == 0 && a == 0) = false := by simp; omega
    clear hp
    go_enter Try.func5, Try.ntmps5
    go_wp2_with fail
    refine (putb_any _ _ hn).mono ?_
    rintro e w1 ⟨rfl, hb1⟩; obtain ⟨c1, f1, l1, m1, n1⟩ := bfacts hb1
    go_wp2_with fail
    refine (parse_at _ _ _ _ _ hs1 H1).mono ?_
    rintro e w2 ⟨rfl, hb2⟩; obtain ⟨c2, f2, l2, m2, n2⟩ := bfacts hb2
    go_wp2_with fail
    refine (take_at _ _ _ _ _ _ _ hs2 (by omega) H2).mono ?_
    rintro e w3 ⟨rfl, hb3⟩; obtain ⟨c3, f3, l3, m3, n3⟩ := bfacts hb3; have hb23 := bl_step (bl_alloc hb2 _) hb3; obtain ⟨c23, f23, l23, m23, n23⟩ := bfacts hb23
    go_wp2_with fail
    refine (parse_at _ _ _ _ _ hs H3).mono ?_
    rintro e w4 ⟨rfl, hb4⟩; obtain ⟨c4, f4, l4, m4, n4⟩ := bfacts hb4; have hb34 := bl_step (bl_alloc hb3 _) hb4; obtain ⟨c34, f34, l34, m34, n34⟩ := bfacts hb34; have hb24 := bl_step (bl_alloc hb23 _) hb4; obtain ⟨c24, f24, l24, m24, n24⟩ := bfacts hb24
    go_wp2_with (first | (go_at_call 19; refine (lives07_any _).mono ?_; rintro e w5 ⟨rfl, hb5⟩))
    all_goals (go_ret; refine ⟨by first | rfl | simp, ?_⟩)
    repeat (first | exact Below.refl _ _ | refine bl_alloc ?_ _ | refine Below.drew ?_ | refine bl_drewN ?_ _ | refine bl_set ?_ (by first | (simp; done) | (simp; omega)) _ | refine bl_step ?_ (by assumption))
end Go.Proofs.Yteohofgmkiagoaa
