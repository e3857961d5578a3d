/- The plain law of a cut: both parts' columns. -/
import Derived.Test.YteddjadeenimkaaUtf6Q
import Derived.Test.YteddjadeenimkaaCells2Q
set_option linter.unusedVariables false
set_option linter.unusedSimpArgs false
namespace Go.Proofs.Yteddjadeenimkaa
open Go.RowKit Bf
theorem unitS_ok (l : List UInt8) (r : Int) (n : Nat) (hl : l ≠ []) (h : decS l = (r, n, true)) : unitS l = (runeC r, n) := by unfold unitS; rw [if_neg hl, h]; rfl
theorem unitS_bad (l : List UInt8) (r : Int) (n : Nat) (hl : l ≠ []) (h : decS l = (r, n, false)) : unitS l = (1, 1) := by unfold unitS; rw [if_neg hl, h]; rfl
theorem ref_dec' (l : List UInt8) (hl : l ≠ []) : ∃ r n ok, decS l = (r, n, ok) ∧ n ≤ l.length ∧ 1 ≤ n ∧ n ≤ 4 ∧ (ok = true → RefOk l r n) ∧ (ok = false → RefBad l r n) := by
  cases l with
  | nil => exact absurd rfl hl
  | cons a l => exact ref_dec a l
theorem isB_take (l : List UInt8) (n k : Nat) (hk : n ≤ k) (hn : n ≤ l.length) (h : isB (l.take n) = true) : decS (l.take k) = (reckL (l.take n), n, true) := by
  have e : l.take k = l.take n ++ (l.drop n).take (k - n) := by
    have := List.take_add (l := l) (i := n) (j := k - n)
    rw [show n + (k - n) = k by omega] at this; exact this
  have hlen : (l.take n).length = n := by rw [List.length_take]; omega
  have := isB_dec (l.take n) ((l.drop n).take (k - n)) h
  rw [← e, hlen] at this; exact this
theorem take_ne (l : List UInt8) (k : Nat) (hl : l ≠ []) (hk : 1 ≤ k) : l.take k ≠ [] := by
  intro e; have := congrArg List.length e; rw [List.length_take] at this
  have h2 : 1 ≤ l.length := by cases l with | nil => exact absurd rfl hl | cons a l => simp
  simp only [List.length_nil] at this; omega
theorem unit_take (l : List UInt8) (k : Nat) (hl : l ≠ []) (hk : (unitS l).2 ≤ k) : unitS (l.take k) = unitS l := by
  have h1 := (unitS_bd l).2.2.2.1 hl
  have hne := take_ne l k hl (by omega)
  obtain ⟨r, n, ok, hd, n1, n2, n3, hok, hbad⟩ := ref_dec' l hl
  cases ok
  · have hu := unitS_bad l r n hl hd
    rw [hu] at hk ⊢
    obtain ⟨r', n', ok', hd', m1, m2, m3, hok', hbad'⟩ := ref_dec' (l.take k) hne
    cases ok'
    · exact unitS_bad _ r' n' hne hd'
    · exfalso
      have hb := (hok' rfl).2.1
      have hlk : n' ≤ k ∧ n' ≤ l.length := by rw [List.length_take] at m1; omega
      rw [List.take_take, show min n' k = n' by omega] at hb
      have := isB_take l n' l.length hlk.2 hlk.2 hb
      rw [List.take_length, hd] at this
      simp at this
  · have hu := unitS_ok l r n hl hd
    rw [hu] at hk ⊢
    obtain ⟨_, hb, hr⟩ := hok rfl
    have := isB_take l n k hk n1 hb
    rw [hr] at this
    exact unitS_ok _ r n hne this
theorem cut_law : ∀ (z : Nat) (l : List UInt8) (m : Int), l.length ≤ z → 0 ≤ m →
    cutL l m ≤ l.length ∧ widthL (l.take (cutL l m)) ≤ m ∧ widthL (l.take (cutL l m)) + widthL (l.drop (cutL l m)) = widthL l ∧ (l.drop (cutL l m) ≠ [] → m - widthL (l.take (cutL l m)) < (unitS (l.drop (cutL l m))).1) := by
  intro z
  induction z with
  | zero =>
    intro l m h hm
    have : l = [] := List.length_eq_zero_iff.1 (by omega)
    subst this
    rw [cutL_nil]
    simp [widthL_nil]; exact hm
  | succ z ih =>
    intro l m h hm
    by_cases hl : l = []
    · subst hl; rw [cutL_nil]; simp [widthL_nil]; exact hm
    · by_cases hu : m < (unitS l).1
      · rw [cutL_stop l m hu]
        simp only [List.take_zero, List.drop_zero, widthL_nil]
        exact ⟨Nat.zero_le _, hm, by omega, fun _ => by omega⟩
      · have hb := unitS_bd l
        have h1 := hb.2.2.2.1 hl
        have hk := cutL_step l m hl (by omega)
        obtain ⟨i1, i2, i3, i4⟩ := ih (l.drop (unitS l).2) (m - (unitS l).1) (by rw [List.length_drop]; omega) (by omega)
        obtain ⟨j, hj⟩ : ∃ j, cutL (l.drop (unitS l).2) (m - (unitS l).1) = j := ⟨_, rfl⟩
        rw [hj] at hk i1 i2 i3 i4
        rw [hk]
        rw [List.length_drop] at i1
        rw [List.drop_drop] at i3 i4
        have ht := unit_take l ((unitS l).2 + j) hl (by omega)
        have hw := widthL_step (l.take ((unitS l).2 + j)) (take_ne l _ hl (by omega))
        rw [ht] at hw
        have hd : (l.take ((unitS l).2 + j)).drop (unitS l).2 = (l.drop (unitS l).2).take j := by rw [List.drop_take]; congr 1; omega
        rw [hd] at hw
        have hl2 := widthL_step l hl
        refine ⟨by omega, by omega, by omega, fun hne => ?_⟩
        have := i4 hne
        omega
end Go.Proofs.Yteddjadeenimkaa
