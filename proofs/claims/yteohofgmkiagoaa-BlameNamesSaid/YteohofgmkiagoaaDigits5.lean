/- Contracts: digits.Put whole, Columns, and the law's own small function. -/
import Derived.Test.YteohofgmkiagoaaDigits4
set_option linter.unusedVariables false
set_option linter.unusedSimpArgs false
namespace Go.Proofs.Yteohofgmkiagoaa
open Go.RowKit Bf

theorem put_any (n : Int) (w : World) (h : -9223372036854775808 ≤ n ∧ n ≤ 9223372036854775807) :
    Calls Try.prog 23 #[.int .i64 n] w fun e w' => e = .returned (.string ⟨(putL n).toArray⟩) ∧ Below w.heap.size w w' := by
  by_cases h0 : n < 0
  · exact put_neg n w h0 h.1
  · exact put_pos n w (by omega) h.2

/-- Put, its answer named. -/
theorem put_at (n : Int) (l : List UInt8) (w : World) (h : -9223372036854775808 ≤ n ∧ n ≤ 9223372036854775807) (hl : Hid (putL n = l)) :
    Calls Try.prog 23 #[.int .i64 n] w fun e w' => e = .returned (.string ⟨l.toArray⟩) ∧ Below w.heap.size w w' := by
  have := put_any n w h; rw [hl.out] at this; exact this

theorem parse_at (s : ByteArray) (n f a : Int) (w : World) (hs : s.size ≤ maxLen) (h : Hid (parseS s.data.toList = (n, f, a))) :
    Calls Try.prog 22 #[.string s] w fun e w' => e = .returned (.tuple #[.int .i64 n, .agg #[.int .i64 f, .int .i64 a]]) ∧ Below w.heap.size w w' := by
  have := parse_any s w hs; rw [h.out] at this; exact this

theorem columns_any (n : Int) (w : World) (h : -9223372036854775808 ≤ n ∧ n ≤ 9223372036854775807) :
    Calls Try.prog 35 #[.int .i64 n] w fun e w' => e = .returned (.int .i64 (putL n).length) ∧ Below w.heap.size w w' := by
  have hl := putL_len n h
  go_enter Try.func35, Try.ntmps35
  go_wp2_with (go_at_call 23; refine (put_any _ _ h).mono ?_; rintro e w1 ⟨rfl, hb⟩; obtain ⟨kc, kf, kl, km, kn⟩ := bfacts hb)
  go_ret
  refine ⟨by rfl, ?_⟩
  repeat (first | exact Below.refl _ _ | refine bl_alloc ?_ _ | refine Below.drew ?_ | refine bl_drewN ?_ _ | refine bl_set ?_ (by first | (simp; done) | (simp; omega)) _ | refine bl_step ?_ (by assumption))

theorem putL40 : putL (-40) = [45, 52, 48] := by
  unfold putL; rw [if_pos (by decide), show (-40 : Int).natAbs = 40 from rfl, decL_ge 40 (by decide), decL_lt (40 / 10) (by decide)]; rfl
theorem parse007 : parseS (ByteArray.mk #[48, 48, 55]).data.toList = (0, 19, 0) := by decide
theorem lives07_any (w : World) :
    Calls Try.prog 19 #[] w fun e w' => e = .returned (.bool true) ∧ Below w.heap.size w w' := by
  have H1 := Lib.hid putL40
  have H2 := Lib.hid parse007
  go_enter Try.func19, Try.ntmps19
  go_wp2_with (first | (go_at_call 23; refine (put_at _ _ _ (by omega) H1).mono ?_; rintro e w1 ⟨rfl, hb⟩; obtain ⟨kc, kf, kl, km, kn⟩ := bfacts hb) | (go_at_call 22; refine (parse_at _ _ _ _ _ (by decide) H2).mono ?_; rintro e w1 ⟨rfl, hb⟩; obtain ⟨kc, kf, kl, km, kn⟩ := bfacts hb))
  go_ret
  refine ⟨by rfl, ?_⟩
  repeat (first | exact Below.refl _ _ | refine bl_alloc ?_ _ | refine Below.drew ?_ | refine bl_drewN ?_ _ | refine bl_set ?_ (by first | (simp; done) | (simp; omega)) _ | refine bl_step ?_ (by assumption))
end Go.Proofs.Yteohofgmkiagoaa
