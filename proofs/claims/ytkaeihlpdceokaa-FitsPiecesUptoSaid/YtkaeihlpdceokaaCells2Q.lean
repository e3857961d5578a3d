/- Contracts of the package cells: Width, Cut. -/
import Derived.Test.YtkaeihlpdceokaaBU3
import Derived.Test.YtkaeihlpdceokaaCellsQ
set_option linter.unusedVariables false
set_option linter.unusedSimpArgs false
namespace Go.Proofs.Ytkaeihlpdceokaa
open Go.RowKit Bf
theorem unitS_bd (l : List UInt8) : 0 ≤ (unitS l).1 ∧ (unitS l).1 ≤ 2 ∧ (unitS l).2 ≤ l.length ∧ (l ≠ [] → 1 ≤ (unitS l).2) ∧ (unitS l).2 ≤ 4 := by
 have hr := runeC_bd (decS l).1
 have hn := decS_len l
 unfold unitS
 split
 · next h => exact ⟨Int.le_refl 0, by simp, by simp, fun e => absurd h e, by simp⟩
 · next h =>
   have : 1 ≤ l.length := by cases l with | nil => exact absurd rfl h | cons a l => simp
   split
   · exact ⟨hr.1, hr.2, hn.1, hn.2.1, hn.2.2⟩
   · exact ⟨by simp, by simp, this, fun _ => Nat.le_refl 1, by simp⟩
theorem unit_drop (l : List UInt8) (h : l ≠ []) : (l.drop (unitS l).2).length < l.length := by
 have := unitS_bd l
 have h1 := this.2.2.2.1 h
 have h2 : 1 ≤ l.length := by cases l with | nil => exact absurd rfl h | cons a l => simp
 rw [List.length_drop]; omega
def widthL (l : List UInt8) : Int := if h : l = [] then 0 else (unitS l).1 + widthL (l.drop (unitS l).2)
termination_by l.length
decreasing_by exact unit_drop l h
theorem widthL_nil : widthL [] = 0 := by rw [widthL, dif_pos rfl]
theorem widthL_step (l : List UInt8) (h : l ≠ []) : widthL l = (unitS l).1 + widthL (l.drop (unitS l).2) := by rw [widthL, dif_neg h]
theorem widthL_bd : ∀ (m : Nat) (l : List UInt8), l.length ≤ m → 0 ≤ widthL l ∧ widthL l ≤ 2 * l.length := by
 intro m
 induction m with
 | zero => intro l h; have : l = [] := List.length_eq_zero_iff.1 (by omega); subst this; rw [widthL_nil]; exact ⟨Int.le_refl 0, by simp⟩
 | succ m ih =>
  intro l h
  by_cases hl : l = []
  · subst hl; rw [widthL_nil]; exact ⟨Int.le_refl 0, by simp⟩
  · rw [widthL_step l hl]
    have hb := unitS_bd l
    have h1 := hb.2.2.2.1 hl
    have := ih (l.drop (unitS l).2) (by rw [List.length_drop]; omega)
    rw [List.length_drop] at this
    omega
theorem unitAt_in (l : List UInt8) (k : Nat) (h : k < l.length) : unitAt l k = unitS (l.drop k) := by unfold unitAt; rw [if_neg (by omega)]; simp
theorem unit_at (s : ByteArray) (a : Int) (c : Int) (n : Nat) (w : World) (hs : s.size ≤ maxLen) (ha : -9223372036854775808 ≤ a ∧ a ≤ 9223372036854775807) (h : Hid (unitAt s.data.toList a = (c, n))) :
 Calls Try.prog 25 #[.string s, .int .i64 a] w fun e w' => e = .returned (.tuple #[.int .i64 c, .int .i64 (n : Int)]) ∧ Below w.heap.size w w' := by
 have := unit_any s a w hs ha; rw [h.out] at this; exact this
def WidthRel (s : ByteArray) (i m : Value) : Prop := ∃ (k : Nat) (c : Int), i = .int .i64 k ∧ m = .int .i64 c ∧ k ≤ s.size ∧ 0 ≤ c ∧ c ≤ 2 * k ∧ widthL s.data.toList = c + widthL (s.data.toList.drop k)
set_option maxHeartbeats 400000 in
theorem width_any (s : ByteArray) (w : World) (hs : s.size ≤ maxLen) (hs2 : s.size ≤ 4611686018427387000) :
 Calls Try.prog 19 #[.string s] w fun e w' => e = .returned (.int .i64 (widthL s.data.toList)) ∧ Below w.heap.size w w' := by
 have hs' := hs
 unfold maxLen at hs'
 go_enter Try.func19, Try.ntmps19
 go_wp2
 go_loopw [3, 4] (fun m i wr => WidthRel s i m ∧ Below w.heap.size w wr) (fun _ i _ => s.size - (intOf i).toNat)
 case atStart => exact ⟨⟨0, 0, rfl, rfl, Nat.zero_le _, by omega, by omega, by simp⟩, Below.refl _ _⟩
 case round =>
  obtain ⟨⟨k, c, rfl, rfl, hk, hc0, hc, hr⟩, hb0⟩ := hrel
  have Hr := Lib.hid hr; clear hr
  by_cases hlt : k < s.size
  · obtain ⟨u, n, hd⟩ : ∃ u n, unitS (s.data.toList.drop k) = (u, n) := ⟨_, _, rfl⟩
    have hne := drop_ne s k hlt
    have hlen := unitS_bd (s.data.toList.drop k)
    have hst := widthL_step _ hne
    rw [hd, List.drop_drop] at hst
    rw [hd, List.length_drop, toList_length] at hlen
    obtain ⟨u1, u2, n1, n2, n3⟩ := hlen
    have n2' := n2 hne
    simp only at u1 u2 n1 n2' n3 hst
    have HD : Hid (unitAt s.data.toList k = (u, n)) := by rw [unitAt_in _ _ (by rw [toList_length]; exact hlt)]; exact hd
    have HR : Hid (widthL s.data.toList = c + u + widthL (s.data.toList.drop (k + n))) := by rw [Hr.out, hst]; simp only [Hid]; omega
    clear hd hne n2 hst
    go_wp2_with (go_at_call 25; refine (unit_at _ _ _ _ _ hs (by omega) HD).mono ?_; rintro e w1 ⟨rfl, hb⟩)
    refine ⟨⟨⟨k + n, c + u, by go_num, by go_num, by omega, by omega, by omega, HR.out⟩, ?_⟩, by simp [intOf]; omega⟩
    repeat (first | exact Below.refl _ _ | refine bl_alloc ?_ _ | refine Below.drew ?_ | refine bl_drewN ?_ _ | refine bl_set ?_ (by first | (simp; done) | (simp; omega)) _ | refine bl_step ?_ (by assumption))
  · have HR : Hid (widthL s.data.toList = c) := by rw [Hr.out, drop_all s k (by omega), widthL_nil]; simp [Hid]
    go_wp2
    go_ret
    refine ⟨by rw [HR.out]; rfl, ?_⟩
    repeat (first | exact Below.refl _ _ | refine bl_alloc ?_ _ | refine Below.drew ?_ | refine bl_drewN ?_ _ | refine bl_set ?_ (by first | (simp; done) | (simp; omega)) _ | refine bl_step ?_ (by assumption))
theorem width_at (s : ByteArray) (n : Int) (w : World) (hs : s.size ≤ maxLen) (hs2 : s.size ≤ 4611686018427387000) (h : Hid (widthL s.data.toList = n)) :
 Calls Try.prog 19 #[.string s] w fun e w' => e = .returned (.int .i64 n) ∧ Below w.heap.size w w' := by
 have := width_any s w hs hs2; rw [h.out] at this; exact this
end Go.Proofs.Ytkaeihlpdceokaa