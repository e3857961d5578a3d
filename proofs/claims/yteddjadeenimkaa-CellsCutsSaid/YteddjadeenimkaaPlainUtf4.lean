/- Plain facts: scalars written one behind the other. No program in sight. -/
import Derived.Test.YteddjadeenimkaaPlainUtf3
set_option linter.unusedVariables false
set_option linter.unusedSimpArgs false
namespace Bf
def encAll (zs : List Int) : List UInt8 := zs.flatMap encL
def keptL (zs : List Int) : List Int := zs.filter scalarB
theorem encL_ne (z : Int) (h : scalarB z = true) : encL z ≠ [] := by
  have := dec_enc z [] h
  intro e; rw [e] at this; simp [decS] at this
theorem encAll_facts (zs : List Int) : badL (encAll zs) = (encAll zs).length ∧ runesL (encAll zs) = keptL zs ∧ countL (encAll zs) = (keptL zs).length := by
  induction zs with
  | nil => simp [encAll, keptL, badL_nil, runesL_nil, countL_nil]
  | cons z zs ih =>
    obtain ⟨i1, i2, i3⟩ := ih
    have e : encAll (z :: zs) = encL z ++ encAll zs := by simp [encAll]
    cases hs : scalarB z
    · have e2 : encAll (z :: zs) = encAll zs := by rw [e, encL_no z hs]; rfl
      have e3 : keptL (z :: zs) = keptL zs := by simp [keptL, hs]
      rw [e2, e3]; exact ⟨i1, i2, i3⟩
    · have hd := dec_enc z (encAll zs) hs
      have hne : encL z ++ encAll zs ≠ [] := by intro h; exact encL_ne z hs (List.append_eq_nil_iff.1 h).1
      have e3 : keptL (z :: zs) = z :: keptL zs := by simp [keptL, hs]
      have hdr : (encL z ++ encAll zs).drop (encL z).length = encAll zs := by simp
      rw [e, e3]
      refine ⟨?_, ?_, ?_⟩
      · rw [badL_ok _ _ _ hne hd, hdr, i1]; simp
      · rw [runesL_ok _ _ _ hne hd, hdr, i2]
      · rw [countL_step _ _ _ _ hne hd, hdr, i3]; simp
theorem encAll_len (zs : List Int) : (encAll zs).length ≤ 4 * zs.length := by
  induction zs with
  | nil => simp [encAll]
  | cons z zs ih =>
    have e : encAll (z :: zs) = encL z ++ encAll zs := by simp [encAll]
    have := encL_len z
    rw [e]; simp; omega
theorem keptL_len (zs : List Int) : (keptL zs).length ≤ zs.length := List.length_filter_le _ _
theorem encAll_snoc (zs : List Int) (k : Nat) (h : k < zs.length) : encAll (zs.take (k + 1)) = encAll (zs.take k) ++ encL zs[k] := by
  rw [List.take_succ_eq_append_getElem h]; unfold encAll; rw [List.flatMap_append]; simp
theorem keptL_snoc (zs : List Int) (k : Nat) (h : k < zs.length) : keptL (zs.take (k + 1)) = if scalarB zs[k] then keptL (zs.take k) ++ [zs[k]] else keptL (zs.take k) := by
  rw [List.take_succ_eq_append_getElem h]; unfold keptL; rw [List.filter_append]
  cases hs : scalarB zs[k] <;> simp [hs]
end Bf
