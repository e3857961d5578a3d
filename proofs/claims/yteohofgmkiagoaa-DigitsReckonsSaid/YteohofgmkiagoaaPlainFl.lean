/- Plain facts: Floor. -/
import Derived.Test.YteohofgmkiagoaaPlain2
set_option linter.unusedVariables false
set_option linter.unusedSimpArgs false
namespace Bf
/-- The greatest multiple that is not above a number; false: there is none that is an int. -/
def floorS (n u : Int) : Int × Bool := if u < 1 then (0, false) else if n - n % u < -9223372036854775808 then (0, false) else (n - n % u, true)
theorem floorS_no (n u : Int) (h : u < 1) : floorS n u = (0, false) := by unfold floorS; rw [if_pos h]
theorem floorS_out (n u : Int) (h : 1 ≤ u) (h' : n - n % u < -9223372036854775808) : floorS n u = (0, false) := by unfold floorS; rw [if_neg (by omega), if_pos h']
theorem floorS_in (n u : Int) (h : 1 ≤ u) (h' : ¬ n - n % u < -9223372036854775808) : floorS n u = (n - n % u, true) := by unfold floorS; rw [if_neg (by omega), if_neg h']
theorem emod_bd (n u : Int) (h : 1 ≤ u) : 0 ≤ n % u ∧ n % u < u := ⟨Int.emod_nonneg _ (by omega), Int.emod_lt_of_pos _ (by omega)⟩
theorem tmod_emod (n u : Int) (h : 1 ≤ u) : -u < n.tmod u ∧ n.tmod u < u ∧ (n.tmod u < 0 → n.tmod u + u = n % u) ∧ (0 ≤ n.tmod u → n.tmod u = n % u) := by
  obtain ⟨b1, b2⟩ := emod_bd n u h
  by_cases hn : 0 ≤ n
  · have e : n.tmod u = n % u := Int.tmod_eq_emod_of_nonneg hn
    exact ⟨by omega, by omega, by omega, by omega⟩
  · have e : n.tmod u = -((-n) % u) := by
      have : (-n).tmod u = (-n) % u := Int.tmod_eq_emod_of_nonneg (by omega)
      rw [Int.neg_tmod] at this; omega
    obtain ⟨c1, c2⟩ := emod_bd (-n) u h
    have e2 : (-n) % u = if n % u = 0 then 0 else u - n % u := by
      by_cases hz : n % u = 0
      · rw [if_pos hz]; exact Int.emod_eq_zero_of_dvd (Int.dvd_neg.2 (Int.dvd_of_emod_eq_zero hz))
      · rw [if_neg hz]
        have h1 : -n = (u - n % u) + u * (-(n / u) - 1) := by
          have := Int.emod_add_mul_ediv n u
          rw [Int.mul_sub, Int.mul_neg]; omega
        rw [h1, Int.add_mul_emod_self_left]
        exact Int.emod_eq_of_lt (by omega) (by omega)
    split at e2 <;> exact ⟨by omega, by omega, by omega, by omega⟩
/-- Truncated division, and what it lacks. -/
theorem tdiv_facts (n u : Int) (h : 1 ≤ u) : n.tdiv u * u = n - n.tmod u := by
  have := Int.tmod_add_mul_tdiv n u
  rw [Int.mul_comm] at this; omega
theorem tdiv_bd (n u : Int) (h : 1 ≤ u) (hn : -9223372036854775808 ≤ n ∧ n ≤ 9223372036854775807) : -9223372036854775808 ≤ n.tdiv u ∧ n.tdiv u ≤ 9223372036854775807 := by
  have e := tdiv_facts n u h
  obtain ⟨b1, b2, _, _⟩ := tmod_emod n u h
  by_cases hn0 : 0 ≤ n
  · have : n.tdiv u = n / u := Int.tdiv_eq_ediv_of_nonneg hn0
    rw [this]
    exact ⟨by have := Int.ediv_nonneg hn0 (show 0 ≤ u by omega); omega, by have := Int.ediv_le_self u hn0; omega⟩
  · have : n.tdiv u = -((-n) / u) := by
      have h1 : (-n).tdiv u = (-n) / u := Int.tdiv_eq_ediv_of_nonneg (by omega)
      rw [Int.neg_tdiv] at h1; omega
    rw [this]
    have h2 := Int.ediv_nonneg (show 0 ≤ -n by omega) (show 0 ≤ u by omega)
    have h3 := Int.ediv_le_self u (show 0 ≤ -n by omega)
    exact ⟨by omega, by omega⟩
/-- A multiple is an int just where its factor is not under the least int's own. -/
theorem mul_lt_least (q u : Int) (h : 1 ≤ u) : q < (-9223372036854775808 : Int).tdiv u ↔ q * u < -9223372036854775808 := by
  have e := tdiv_facts (-9223372036854775808) u h
  obtain ⟨b1, b2, b3, b4⟩ := tmod_emod (-9223372036854775808) u h
  have hneg : (-9223372036854775808 : Int).tmod u ≤ 0 := by
    have : (9223372036854775808 : Int).tmod u = 9223372036854775808 % u := Int.tmod_eq_emod_of_nonneg (by omega)
    have h1 := (emod_bd 9223372036854775808 u h).1
    have h2 : (-(9223372036854775808 : Int)).tmod u = -((9223372036854775808 : Int).tmod u) := Int.neg_tmod _ _
    have h3 : (-9223372036854775808 : Int) = -(9223372036854775808 : Int) := rfl
    rw [h3, h2]; omega
  generalize (-9223372036854775808 : Int).tdiv u = t at *
  generalize (-9223372036854775808 : Int).tmod u = m at *
  constructor
  · intro hq
    have : q * u ≤ (t - 1) * u := Int.mul_le_mul_of_nonneg_right (by omega) (by omega)
    rw [Int.sub_mul] at this; omega
  · intro hq
    apply Classical.byContradiction
    intro hn
    have : t * u ≤ q * u := Int.mul_le_mul_of_nonneg_right (by omega) (by omega)
    omega
end Bf
