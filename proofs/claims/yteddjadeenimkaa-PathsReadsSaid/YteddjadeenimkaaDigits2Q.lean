/- Contracts of the package digits, continued: Parse. -/
import Derived.Test.YteddjadeenimkaaDigitsQ
import Derived.RegionTactic
set_option linter.unusedVariables false
set_option linter.unusedSimpArgs false
namespace Go.Proofs.Yteddjadeenimkaa
open Go.RowKit Bf

theorem take_at (s : ByteArray) (a : Int) (n en f at_ : Int) (w : World) (hs : s.size ≤ maxLen) (ha : -9223372036854775808 ≤ a ∧ a ≤ 9223372036854775807)
    (h : Hid (takeS s.data.toList a = (n, en, f, at_))) :
    Calls Try.prog 130 #[.string s, .int .i64 a] w fun e w' => e = .returned (.tuple #[.int .i64 n, .int .i64 en, .agg #[.int .i64 f, .int .i64 at_]]) ∧ Below w.heap.size w w' := by
  have := take_any s a w hs ha; rw [h.out] at this; exact this

def parseV (r : Int × Int × Int) : Value := .tuple #[.int .i64 r.1, .agg #[.int .i64 r.2.1, .int .i64 r.2.2]]


set_option maxHeartbeats 1000000 in
theorem parse_any (s : ByteArray) (w : World) (hs : s.size ≤ maxLen) :
    Calls Try.prog 92 #[.string s] w fun e w' => e = .returned (parseV (parseS s.data.toList)) ∧ Below w.heap.size w w' := by
  unfold maxLen at hs
  obtain ⟨n, en, f, at_, hr⟩ : ∃ n en f at_, takeS s.data.toList 0 = (n, en, f, at_) := ⟨_, _, _, _, rfl⟩
  have Hr := Lib.hid hr
  by_cases hf : f = 0
  · have ht1 : (f != 0) = false := by simp [hf]
    by_cases hl : en < s.size
    · have HR : Hid (parseS s.data.toList = (0, 19, en)) := by unfold parseS; simp [Hid, hr, hf, hl]
      clear hr hf
      go_enter Try.func92, Try.ntmps92
      go_wp2_with (go_at_call 130; refine (take_at _ _ _ _ _ _ _ hs (by omega) Hr).mono ?_; rintro e w' ⟨rfl, hb⟩; obtain ⟨kc, kf, kl, km, kn⟩ := bfacts hb)
      all_goals refine bodyPost_ret (v := parseV (_, _, _)) (by simp [results, Try.results92, go_sem, kc, kl] <;> rfl) rfl ⟨by rw [HR.out], ?_⟩
      repeat (first | exact Below.refl _ _ | refine bl_alloc ?_ _ | refine Below.drew ?_ | refine bl_drewN ?_ _ | refine bl_set ?_ (by first | (simp; done) | (simp; omega)) _ | refine bl_step ?_ (by assumption))
    · have HR : Hid (parseS s.data.toList = (n, 0, 0)) := by unfold parseS; simp [Hid, hr, hf, hl]
      clear hr hf
      go_enter Try.func92, Try.ntmps92
      go_wp2_with (go_at_call 130; refine (take_at _ _ _ _ _ _ _ hs (by omega) Hr).mono ?_; rintro e w' ⟨rfl, hb⟩; obtain ⟨kc, kf, kl, km, kn⟩ := bfacts hb)
      all_goals refine bodyPost_ret (v := parseV (_, _, _)) (by simp [results, Try.results92, go_sem, kc, kl] <;> rfl) rfl ⟨by rw [HR.out], ?_⟩
      repeat (first | exact Below.refl _ _ | refine bl_alloc ?_ _ | refine Below.drew ?_ | refine bl_drewN ?_ _ | refine bl_set ?_ (by first | (simp; done) | (simp; omega)) _ | refine bl_step ?_ (by assumption))
  · have ht1 : (f != 0) = true := by simp [hf]
    have HR : Hid (parseS s.data.toList = (0, f, at_)) := by unfold parseS; simp [Hid, hr, hf]
    clear hr hf
    go_enter Try.func92, Try.ntmps92
    go_wp2_with (go_at_call 130; refine (take_at _ _ _ _ _ _ _ hs (by omega) Hr).mono ?_; rintro e w' ⟨rfl, hb⟩; obtain ⟨kc, kf, kl, km, kn⟩ := bfacts hb)
    go_region
    go_wp2

    all_goals refine bodyPost_ret (v := parseV (_, _, _)) (by simp [results, Try.results92, go_sem, kc, kl] <;> rfl) rfl ⟨by rw [HR.out], ?_⟩
    repeat (first | exact Below.refl _ _ | refine bl_alloc ?_ _ | refine Below.drew ?_ | refine bl_drewN ?_ _ | refine bl_set ?_ (by first | (simp; done) | (simp; omega)) _ | refine bl_step ?_ (by assumption))
end Go.Proofs.Yteddjadeenimkaa
