/- Contracts of the package cells: Rune, Unit. -/
import Derived.Test.YtkaeihlpdceokaaBUA
import Derived.Test.YtkaeihlpdceokaaBPI
set_option linter.unusedVariables false
set_option linter.unusedSimpArgs false
namespace Go.Proofs.Ytkaeihlpdceokaa
open Go.RowKit Bf
def runeC (r : Int) : Int := if hasT wideT r then 2 else if hasT zeroT r then 0 else 1
theorem runeC_bd (r : Int) : 0 ≤ runeC r ∧ runeC r ≤ 2 := by unfold runeC; split <;> (try split) <;> omega
theorem rune_any (r : Int) (w : World) (hr : -2147483648 ≤ r ∧ r ≤ 2147483647) :
 Calls Try.prog 34 #[.int .i32 r] w fun e w' => e = .returned (.int .i64 (runeC r)) ∧ Below w.heap.size w w' := by
 obtain ⟨a, ha⟩ : ∃ a, hasT wideT r = a := ⟨_, rfl⟩
 obtain ⟨b, hb⟩ : ∃ b, hasT zeroT r = b := ⟨_, rfl⟩
 have hc : runeC r = if a then 2 else if b then 0 else 1 := by unfold runeC; rw [ha, hb]
 have HW : ∀ W : World, Calls Try.prog 42 #[.int .i32 r] W fun e w' => e = .returned (.bool a) ∧ Below W.heap.size W w' := fun W => by have := isWide_any r W hr; rw [ha] at this; exact this
 have HZ : ∀ W : World, Calls Try.prog 43 #[.int .i32 r] W fun e w' => e = .returned (.bool b) ∧ Below W.heap.size W w' := fun W => by have := isZero_any r W hr; rw [hb] at this; exact this
 have H1 := Lib.hid HW; have H2 := Lib.hid HZ; have H3 := Lib.hid hc
 clear HW HZ hc ha hb hr
 cases a <;> cases b
 all_goals (
  go_enter Try.func34, Try.ntmps34
  go_wp2_with (first | (go_at_call 42; refine (H1.out _).mono ?_; rintro e w1 ⟨rfl, hb⟩) | (go_at_call 43; refine (H2.out _).mono ?_; rintro e w1 ⟨rfl, hb⟩))
  go_ret
  refine ⟨by rw [H3.out]; rfl, ?_⟩
  repeat (first | exact Below.refl _ _ | refine bl_alloc ?_ _ | refine Below.drew ?_ | refine bl_drewN ?_ _ | refine bl_set ?_ (by first | (simp; done) | (simp; omega)) _ | refine bl_step ?_ (by assumption))
  )
theorem valL_bd (l : List UInt8) : 0 ≤ valL l ∧ valL l ≤ 2097151 := by
 match l with
 | [] => exact ⟨Int.le_refl 0, by simp only [valL]; omega⟩
 | [a] => have := ub a; simp only [valL]; omega
 | [a, b] => simp only [valL]; omega
 | [a, b, c] => simp only [valL]; omega
 | [a, b, c, d] => simp only [valL]; omega
 | _ :: _ :: _ :: _ :: _ :: _ => simp only [valL]; omega
theorem decS_val (l : List UInt8) : 0 ≤ (decS l).1 ∧ (decS l).1 ≤ 2097151 := by
 cases l with
 | nil => exact ⟨Int.le_refl 0, by simp only [decS]; omega⟩
 | cons c l =>
  have hv : ∀ k, 0 ≤ valL k ∧ valL k ≤ 2097151 := valL_bd
  unfold decS; simp only
  generalize valL = V at hv ⊢
  split
  · exact ⟨by omega, by omega⟩
  · split
    · exact hv _
    · exact ⟨by omega, by omega⟩
def unitS (l : List UInt8) : Int × Nat := if l = [] then (0, 0) else if (decS l).2.2 then (runeC (decS l).1, (decS l).2.1) else (1, 1)
def unitAt (l : List UInt8) (a : Int) : Int × Nat := if a < 0 ∨ (l.length : Int) ≤ a then (0, 0) else unitS (l.drop a.toNat)
theorem unit_any (s : ByteArray) (a : Int) (w : World) (hs : s.size ≤ maxLen) (ha : -9223372036854775808 ≤ a ∧ a ≤ 9223372036854775807) :
 Calls Try.prog 25 #[.string s, .int .i64 a] w fun e w' => e = .returned (.tuple #[.int .i64 (unitAt s.data.toList a).1, .int .i64 ((unitAt s.data.toList a).2 : Int)]) ∧ Below w.heap.size w w' := by
 obtain ⟨r, n, b, hd⟩ : ∃ r n b, decAt s.data.toList a = (r, n, b) := ⟨_, _, _, rfl⟩
 have HD := Lib.hid hd
 by_cases ho : a < 0 ∨ (s.size : Int) ≤ a
 · have hu : unitAt s.data.toList a = (0, 0) := by unfold unitAt; rw [if_pos (by rw [toList_length]; exact ho)]
   have he : decAt s.data.toList a = (0, 0, false) := by unfold decAt; rw [if_pos (by rw [toList_length]; exact ho)]
   rw [he] at hd
   simp only [Prod.mk.injEq] at hd
   obtain ⟨rfl, rfl, rfl⟩ := hd
   have HU := Lib.hid hu
   clear hu he ho
   go_enter Try.func25, Try.ntmps25
   go_wp2_with (go_at_call 33; refine (decode_at _ _ _ _ _ _ hs ha HD).mono ?_; rintro e w1 ⟨rfl, hb⟩)
   go_ret2
   refine ⟨by rw [HU.out]; rfl, ?_⟩
   repeat (first | exact Below.refl _ _ | refine bl_alloc ?_ _ | refine Below.drew ?_ | refine bl_drewN ?_ _ | refine bl_set ?_ (by first | (simp; done) | (simp; omega)) _ | refine bl_step ?_ (by assumption))
 · have hu : unitAt s.data.toList a = unitS (s.data.toList.drop a.toNat) := by unfold unitAt; rw [if_neg (by rw [toList_length]; exact ho)]
   have he : decAt s.data.toList a = decS (s.data.toList.drop a.toNat) := by unfold decAt; rw [if_neg (by rw [toList_length]; exact ho)]
   have hne : s.data.toList.drop a.toNat ≠ [] := by
    intro e; have := congrArg List.length e; rw [List.length_drop, toList_length] at this; simp at this; omega
   have hb := decS_val (s.data.toList.drop a.toNat)
   have hlen := (decS_len (s.data.toList.drop a.toNat)).2.1 hne
   rw [he] at hd
   rw [hd] at hb hlen
   obtain ⟨v1, v2⟩ := hb
   simp only at v1 v2 hlen
   have hus : unitS (s.data.toList.drop a.toNat) = if b then (runeC r, n) else (1, 1) := by unfold unitS; rw [if_neg hne, hd]
   cases b
   · have HU : Hid (unitAt s.data.toList a = (1, 1)) := by rw [hu, hus]; rfl
     clear hu he hus hd hne ho
     go_enter Try.func25, Try.ntmps25
     go_wp2_with (go_at_call 33; refine (decode_at _ _ _ _ _ _ hs ha HD).mono ?_; rintro e w1 ⟨rfl, hb⟩)
     go_ret2
     refine ⟨by rw [HU.out]; rfl, ?_⟩
     repeat (first | exact Below.refl _ _ | refine bl_alloc ?_ _ | refine Below.drew ?_ | refine bl_drewN ?_ _ | refine bl_set ?_ (by first | (simp; done) | (simp; omega)) _ | refine bl_step ?_ (by assumption))
   · have HU : Hid (unitAt s.data.toList a = (runeC r, n)) := by rw [hu, hus]; rfl
     clear hu he hus hd hne ho
     go_enter Try.func25, Try.ntmps25
     go_wp2_with (first | (go_at_call 33; refine (decode_at _ _ _ _ _ _ hs ha HD).mono ?_; rintro e w1 ⟨rfl, hb⟩) | (go_at_call 34; refine (rune_any _ _ ⟨by omega, by omega⟩).mono ?_; rintro e w1 ⟨rfl, hb⟩))
     go_ret2
     refine ⟨by rw [HU.out]; rfl, ?_⟩
     repeat (first | exact Below.refl _ _ | refine bl_alloc ?_ _ | refine Below.drew ?_ | refine bl_drewN ?_ _ | refine bl_set ?_ (by first | (simp; done) | (simp; omega)) _ | refine bl_step ?_ (by assumption))
end Go.Proofs.Ytkaeihlpdceokaa