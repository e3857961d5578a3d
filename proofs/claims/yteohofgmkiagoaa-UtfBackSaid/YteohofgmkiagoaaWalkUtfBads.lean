/- The walk of blindfoldlaw01.UtfBads. -/
import Derived.Test.YteohofgmkiagoaaUtf8
set_option linter.unusedVariables false
set_option linter.unusedSimpArgs false
namespace Go.Proofs.Yteohofgmkiagoaa
open Go.RowKit Bf
theorem runesL_le : ∀ (m : Nat) (l : List UInt8), l.length ≤ m → (runesL l).length ≤ l.length := by
  intro m
  induction m with
  | zero => intro l h; have : l = [] := List.length_eq_zero_iff.1 (by omega); subst this; simp [runesL_nil]
  | succ m ih =>
    intro l h
    by_cases hl : l = []
    · subst hl; simp [runesL_nil]
    · obtain ⟨r, n, b, hd⟩ : ∃ r n b, decS l = (r, n, b) := ⟨_, _, _, rfl⟩
      have hn := decS_len l
      rw [hd] at hn
      simp only at hn
      cases b
      · rw [runesL_bad l r n hd]; simp
      · rw [runesL_ok l r n hl hd]
        have h1 := hn.2.1 hl
        have := ih (l.drop n) (by simp; omega)
        simp at this ⊢; have := hn.1; omega
theorem count_at (s : ByteArray) (m : Nat) (w : World) (hs : s.size ≤ maxLen) (h : Hid (countL s.data.toList = m)) :
    Calls Try.prog 41 #[.string s] w fun e w' => e = .returned (.int .i64 (m : Int)) ∧ Below w.heap.size w w' := by
  have := count_any s w hs; rw [h.out] at this; exact this
theorem same_eq (va vb : Value) (za : List Int) (w : World) (ha : Rd w va za.length 1 (ints .i32 za)) (hb : Rd w vb za.length 1 (ints .i32 za)) (hla : za.length ≤ 1000000) :
    Calls Try.prog 38 #[va, vb] w fun e w' => e = .returned (.bool true) ∧ Below w.heap.size w w' :=
  same_any va vb za za true w ha hb (by unfold Hid; simp) hla hla
set_option maxHeartbeats 1000000 in
theorem utfBads_walk (s : ByteArray) (hs0 : s.size ≤ 140737488351232) (w : World) :
    Calls Try.prog 9 #[.string s] w fun e w' => e = .returned (.bool true) ∧ Below w.heap.size w w' := by
  have hs : s.size ≤ maxLen := by unfold maxLen; omega
  by_cases h5 : 5000 < s.size
  · go_enter Try.func9, Try.ntmps9
    go_wp2_with (go_at_call 26; refine (lives01_any _).mono ?_; rintro e w1 ⟨rfl, hb⟩)
    go_ret
    refine ⟨by rfl, ?_⟩
    repeat (first | exact Below.refl _ _ | refine bl_alloc ?_ _ | refine Below.drew ?_ | refine bl_drewN ?_ _ | refine bl_set ?_ (by first | (simp; done) | (simp; omega)) _ | refine bl_step ?_ (by assumption))
  · have hs6 : s.size ≤ 1000000 := by omega
    have hr := runesL_le _ s.data.toList (Nat.le_refl _)
    rw [toList_length] at hr
    have hl6 : (runesL s.data.toList).length ≤ 1000000 := by omega
    obtain ⟨bd, hbd⟩ : ∃ b, badL s.data.toList = b := ⟨_, rfl⟩
    obtain ⟨ct, hct⟩ : ∃ b, countL s.data.toList = b := ⟨_, rfl⟩
    obtain ⟨rs, hrs⟩ : ∃ b, runesL s.data.toList = b := ⟨_, rfl⟩
    rw [hrs] at hl6
    obtain ⟨vb, hvb⟩ : ∃ b, validB s.data.toList = b := ⟨_, rfl⟩
    have hq : ((bd : Int) == (s.size : Int)) = vb := by
      rw [← hvb]; unfold validB; rw [hbd, toList_length]; cases h' : decide (bd = s.size) <;> simp at h' ⊢ <;> omega
    have HB := Lib.hid hbd; have HC := Lib.hid hct; have HR := Lib.hid hrs; have HV := Lib.hid hvb
    clear hbd hct hrs hvb hr
    go_enter Try.func9, Try.ntmps9
    go_wp2_with fail
    refine (rwalk_any _ _ hs6).mono ?_
    rintro e w1 ⟨v, rfl, hrd, hb1⟩
    rw [HR.out] at hrd
    rw [HB.out, HC.out]
    go_wp2_with fail
    refine (runes_any _ _ hs6).mono ?_
    rintro e w2 ⟨v2, rfl, hrd2, hb2⟩
    rw [HR.out] at hrd2
    rw [HB.out]
    have HA := Lib.hid (hrd.below hb2); have HA2 := Lib.hid hrd2
    clear hrd hrd2
    go_wp2_with (first | (go_at_call 26; refine (lives01_any _).mono ?_; rintro e w1 ⟨rfl, hb⟩) | (go_at_call 38; refine (same_eq _ _ _ _ HA2.out HA.out hl6).mono ?_; rintro e w1 ⟨rfl, hb⟩) | (go_at_call 39; refine (bad_at _ _ _ hs HB).mono ?_; rintro e w1 ⟨rfl, hb⟩) | (go_at_call 40; refine (valid_at _ _ _ hs HV).mono ?_; rintro e w1 ⟨rfl, hb⟩) | (go_at_call 41; refine (count_at _ _ _ hs HC).mono ?_; rintro e w1 ⟨rfl, hb⟩))
    all_goals (go_ret; refine ⟨by first | rfl | simp, ?_⟩)
    repeat (first | exact Below.refl _ _ | refine bl_alloc ?_ _ | refine Below.drew ?_ | refine bl_drewN ?_ _ | refine bl_set ?_ (by first | (simp; done) | (simp; omega)) _ | refine bl_step ?_ (by assumption))
end Go.Proofs.Yteohofgmkiagoaa
