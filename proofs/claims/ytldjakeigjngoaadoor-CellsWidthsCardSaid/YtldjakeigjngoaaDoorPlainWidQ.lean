/- Plain: lines of a text, and how many columns the widest takes. -/
import Derived.Test.YtldjakeigjngoaaDoorCells2Q
import Derived.Lib.SplitLaws
set_option linter.unusedVariables false
set_option linter.unusedSimpArgs false
namespace Bf
open Go.Lib
def linesL : List UInt8 → List (List UInt8)
 | [] => [[]]
 | c :: l => if c = 10 then [] :: linesL l else match linesL l with
  | h :: t => (c :: h) :: t
  | [] => [[c]]
theorem index_ten (b : UInt8) (l : List UInt8) : index (b :: l) [10] = if b = 10 then 0 else if index l [10] = -1 then -1 else index l [10] + 1 := by
 conv => lhs; unfold index
 by_cases hb : b = 10
 · subst hb; simp [List.isPrefixOf]
 · have : ([10] : List UInt8).isPrefixOf (b :: l) = false := by simp [List.isPrefixOf]; exact fun h => hb h.symm
   rw [this, if_neg (by decide), if_neg hb]
   by_cases h : index l [10] = -1
   · simp [h]
   · simp [h]
theorem count_ten (b : UInt8) (l : List UInt8) : count (b :: l) [10] = if b = 10 then count l [10] + 1 else count l [10] := by
 rw [count_one, count_one]
 by_cases hb : b = 10
 · subst hb; simp
 · rw [List.count_cons_of_ne hb, if_neg hb]
theorem split_lines : ∀ (s : List UInt8), splitK [10] 0 (count s [10]) s = linesL s
 | [] => by
  have h : count [] [10] = 0 := by rw [count_one]; rfl
  rw [h]; rfl
 | b :: l => by
  have ih := split_lines l
  rw [count_ten]
  unfold linesL
  by_cases hb : b = 10
  · subst hb
    rw [if_pos rfl, if_pos rfl]
    unfold splitK
    have h0 : index (10 :: l) [10] = 0 := by rw [index_ten, if_pos rfl]
    rw [h0, if_neg (by decide)]
    simp only [Int.toNat_zero, Nat.zero_add, List.take_zero, List.length_singleton, List.drop_succ_cons, List.drop_zero]
    rw [ih]
  · rw [if_neg hb, if_neg hb]
    cases hk : count l [10] with
    | zero =>
     rw [hk] at ih
     have : linesL l = [l] := by rw [← ih]; rfl
     rw [this]; rfl
    | succ k =>
     rw [hk] at ih
     have hi : index l [10] ≠ -1 := fun h => by rw [count_miss h] at hk; cases hk
     have hge := index_ge l [10]
     obtain ⟨i, hi2⟩ : ∃ i : Nat, index l [10] = i := ⟨(index l [10]).toNat, by omega⟩
     unfold splitK at ih
     rw [if_neg (by simpa using hi), hi2] at ih
     simp only [Int.toNat_natCast, Nat.add_zero, List.length_singleton] at ih
     rw [← ih]
     unfold splitK
     have h2 : index (b :: l) [10] = ((i + 1 : Nat) : Int) := by rw [index_ten, if_neg hb, if_neg hi, hi2]; omega
     rw [h2, if_neg (by simp; omega)]
     simp only [Int.toNat_natCast, Nat.add_zero, List.length_singleton, List.take_succ_cons, List.drop_succ_cons]
     cases k <;> rfl
theorem lines_last : ∀ (l : List UInt8), (∀ j : Nat, l[j]? ≠ some 10) → linesL l = [l]
 | [], _ => rfl
 | c :: l, h => by
  have h0 : c ≠ 10 := fun e => h 0 (by rw [e]; rfl)
  have ih := lines_last l (fun j hj => h (j + 1) (by simpa using hj))
  unfold linesL; rw [if_neg h0, ih]
theorem lines_cut : ∀ (n : Nat) (l : List UInt8), (∀ j : Nat, j < n → l[j]? ≠ some 10) → l[n]? = some 10 → linesL l = l.take n :: linesL (l.drop (n + 1))
 | _, [], _, h => by simp at h
 | 0, c :: l, _, h => by
  simp only [List.getElem?_cons_zero, Option.some.injEq] at h
  subst h
  conv => lhs; unfold linesL
  rw [if_pos rfl]; rfl
 | n + 1, c :: l, hn, h => by
  have h0 : c ≠ 10 := fun e => hn 0 (by omega) (by rw [e]; rfl)
  have ih := lines_cut n l (fun j hj hx => hn (j + 1) (by omega) (by simpa using hx)) (by simpa using h)
  conv => lhs; unfold linesL
  rw [if_neg h0, ih]; rfl
theorem lines_len : ∀ (l : List UInt8), (linesL l).length ≤ l.length + 1
 | [] => by simp [linesL]
 | c :: l => by
  have ih := lines_len l
  unfold linesL; split
  · simp only [List.length_cons]; omega
  · split
    · rename_i h; rw [h] at ih; simp only [List.length_cons] at *; omega
    · simp
theorem lines_le : ∀ (l : List UInt8), ∀ x ∈ linesL l, x.length ≤ l.length
 | [], x, h => by simp only [linesL, List.mem_singleton] at h; subst h; exact Nat.le_refl _
 | c :: l, x, h => by
  have ih := lines_le l
  unfold linesL at h
  split at h
  · rcases List.mem_cons.1 h with rfl | h
    · simp
    · have := ih x h; simp only [List.length_cons]; omega
  · split at h
    · rename_i hh
      rw [hh] at ih
      rcases List.mem_cons.1 h with rfl | h
      · have := ih _ (List.mem_cons_self ..); simp only [List.length_cons]; omega
      · have := ih x (List.mem_cons_of_mem _ h); simp only [List.length_cons]; omega
    · simp only [List.mem_singleton] at h; subst h; simp
def maxW : Int → List Int → Int
 | m, [] => m
 | m, x :: l => maxW (if m < x then x else m) l
end Bf